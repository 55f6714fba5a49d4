/- What chars.Printable, double.Hex compute. Conditions: a rune, a number of 32 bits; digits: at most 8. -/
import Derived.Test.YtllgfccckcgekaaDoorPathStep
namespace Go.Proofs.YtllgfccckcgekaaDoor
set_option maxRecDepth 100000
set_option maxHeartbeats 4000000
open Go.RowKit Go.Proofs.YtllgfccckcgekaaDoorW.PrintWords Go.Proofs.YtllgfccckcgekaaDoorW.PrintLast Go.Proofs.YtllgfccckcgekaaDoorW.PrintMore

/-- May a rune stand in a text? -/
def printF (r : Int) : Bool :=
  if r < 32 then r == 9 || r == 10 || r == 13 else if 126 < r ∧ r < 160 then r == 133
  else if (55296 ≤ r ∧ r ≤ 57343) ∨ r = 65279 ∨ r = 65534 ∨ r = 65535 then false else decide (r ≤ 1114111)
theorem Printable_calls (r : Int) (w : World) : Calls Tryd.prog 144 #[.int .i32 r] w fun e w' => e = .returned (.bool (printF r)) ∧ w = w' := by
  have key : ∀ b, b = printF r → Ending.returned (.bool b) = Ending.returned (.bool (printF r)) := fun _ h => by rw [h]
  have KEY := Aside0.mk key
  clear key
  by_cases h1 : r < 32
  · by_cases e1 : r = 9
    · subst e1; clear KEY; go_enter Tryd.func144, Tryd.ntmps144; go_wp2; go_ret; exact ⟨rfl, rfl⟩
    · by_cases e2 : r = 10
      · subst e2; clear KEY; go_enter Tryd.func144, Tryd.ntmps144; go_wp2; go_ret; exact ⟨rfl, rfl⟩
      · by_cases e3 : r = 13
        · subst e3; clear KEY; go_enter Tryd.func144, Tryd.ntmps144; go_wp2; go_ret; exact ⟨rfl, rfl⟩
        · have b1 : (r == 9) = false := by simpa using e1
          have b2 : (r == 10) = false := by simpa using e2
          have b3 : (r == 13) = false := by simpa using e3
          go_enter Tryd.func144, Tryd.ntmps144
          go_wp2
          go_ret
          exact ⟨KEY.out _ (by simp [printF, h1, e1, e2, e3]), rfl⟩
  · by_cases h2 : 126 < r ∧ r < 160
    · have a1 := h2.1
      have a2 := h2.2
      by_cases e1 : r = 133
      · subst e1; clear KEY; go_enter Tryd.func144, Tryd.ntmps144; go_wp2; go_ret; exact ⟨rfl, rfl⟩
      · have b1 : (r == 133) = false := by simpa using e1
        have H := Aside0.mk h2
        clear h2
        go_enter Tryd.func144, Tryd.ntmps144
        go_wp2
        go_ret
        exact ⟨KEY.out _ (by simp [printF, show ¬ r < 32 by omega, H.out, e1]), rfl⟩
    · have H2 := Aside0.mk h2
      have hq : r ≤ 126 ∨ 160 ≤ r := by omega
      clear h2
      by_cases e1 : r = 65279
      · subst e1; clear KEY; go_enter Tryd.func144, Tryd.ntmps144; go_wp2; go_ret; exact ⟨rfl, rfl⟩
      · by_cases e2 : r = 65534
        · subst e2; clear KEY; go_enter Tryd.func144, Tryd.ntmps144; go_wp2; go_ret; exact ⟨rfl, rfl⟩
        · by_cases e3 : r = 65535
          · subst e3; clear KEY; go_enter Tryd.func144, Tryd.ntmps144; go_wp2; go_ret; exact ⟨rfl, rfl⟩
          · have b1 : (r == 65279) = false := by simpa using e1
            have b2 : (r == 65534) = false := by simpa using e2
            have b3 : (r == 65535) = false := by simpa using e3
            by_cases h3 : 55296 ≤ r <;> by_cases h4 : r ≤ 57343 <;> by_cases h5 : r ≤ 1114111 <;> rcases hq with hq | hq
            all_goals first
              | (exfalso; omega)
              | (go_enter Tryd.func144, Tryd.ntmps144
                 go_wp2
                 go_ret
                 refine ⟨KEY.out _ ?_, rfl⟩
                 simp [printF, show ¬ r < 32 by omega, H2.out, e1, e2, e3, h3, h4, h5]; try omega)
def hexL : List Int := [48, 49, 50, 51, 52, 53, 54, 55, 56, 57, 65, 66, 67, 68, 69, 70]
def hexS : Nat → Int → List Int
  | 0, _ => []
  | d + 1, n => hexS d (n / 16) ++ [rd hexL (n % 16)]
theorem strOfNums_app (a b : List Int) : strOfNums (a ++ b) = strOfNums a ++ strOfNums b := by
  have h : (strOfNums (a ++ b)).data.toList = (strOfNums a ++ strOfNums b).data.toList := by
    rw [strOfNums_data, ByteArray.data_append, Array.toList_append, strOfNums_data, strOfNums_data, List.map_append]
  exact ByteArray.ext (Array.ext' h)
theorem hex_enc : ∀ q : Fin 16, Utf8.encode (((⟨#[48, 49, 50, 51, 52, 53, 54, 55, 56, 57, 65, 66, 67, 68, 69, 70]⟩ : ByteArray)[q.val]'q.isLt).toNat) = strOfNums [rd hexL (q.val : Int)] := by decide +kernel
theorem Hex_calls (n : Int) (d : Nat) (h0 : 0 ≤ n) (h1 : n ≤ 4294967295) (hd : d ≤ 8) (w : World) : Calls Tryd.prog 145 #[.int .u32 n, .int .i64 d] w fun e w' => e = .returned (.string (strOfNums (hexS d n))) ∧ Below w.heap.size w w' := by
  go_enter Tryd.func145, Tryd.ntmps145
  go_wp2_with fail
  go_loopw [13, 0, 5] (fun i vn vo wr => ∃ (k : Nat) (m : Int) (out : List Int), k ≤ d ∧ i = .int .i64 k ∧ vn = .int .u32 m ∧ vo = .string (strOfNums out) ∧ 0 ≤ m ∧ m ≤ 4294967295 ∧ out.length ≤ 8 * k ∧ Aside0 (hexS d n = hexS (d - k) m ++ out) ∧ Aside0 (Below w.heap.size w wr)) (fun i _ _ _ => d - (intOf i).toNat)
  case atStart => exact ⟨0, n, [], by omega, rfl, rfl, rfl, h0, h1, by simp, ⟨by simp⟩, ⟨Below.refl _ _⟩⟩
  case round =>
    obtain ⟨k, m, out, hk, rfl, rfl, rfl, hm0, hm1, hol, HQ, HB⟩ := hrel
    by_cases hlt : k < d
    · obtain ⟨q, hq, hqm, hand⟩ : ∃ q : Nat, q < 16 ∧ (q : Int) = m % 16 ∧ bits .and .u32 m 15 = (q : Int) := ⟨(m % 16).toNat, by omega, by omega, by
        have e : bits .and .u32 m 15 = m % 16 := bits_mask .u32 32 (by decide) (fun n h₀ h₁ => by rw [IntKind.wrap_u32]; omega) 4 (by decide) m hm0 (by omega)
        rw [e]; omega⟩
      have henc := hex_enc ⟨q, hq⟩
      simp only at henc
      obtain ⟨c, hc⟩ : ∃ c, rd hexL (q : Int) = c := ⟨_, rfl⟩
      rw [hc] at henc
      obtain ⟨S, hS⟩ : ∃ S, S = strOfNums [c] := ⟨_, rfl⟩
      rw [← hS] at henc
      have HC := Aside0.mk hc
      have HS := Aside0.mk hS
      have HA := Aside0.mk hqm
      obtain ⟨y, hy⟩ : ∃ y : Nat, ((⟨#[48, 49, 50, 51, 52, 53, 54, 55, 56, 57, 65, 66, 67, 68, 69, 70]⟩ : ByteArray)[q]'hq).toNat = y := ⟨_, rfl⟩
      rw [hy] at henc
      clear hc hS hqm
      have hso : (strOfNums out).size ≤ 64 := by rw [size_str]; omega
      have hsz : S.size = 1 := by rw [HS.out, size_str]; rfl
      go_wp2_with fail
      go_roundw
      case rel =>
        refine ⟨k + 1, m / 16, c :: out, by omega, by go_num, rfl, ?_, by omega, by omega, by simp; omega, ⟨?_⟩, HB⟩
        · rw [HS.out]
          show Value.string (strOfNums [c] ++ strOfNums out) = _
          rw [← strOfNums_app]
          rfl
        · rw [HQ.out]
          obtain ⟨j, hj⟩ : ∃ j, d - k = j + 1 := ⟨d - k - 1, by omega⟩
          rw [hj, show d - (k + 1) = j by omega]
          simp only [hexS]
          rw [← HA.out, HC.out]
          simp
      case measure => simp [intOf]; omega
    · obtain rfl : k = d := by omega
      have hq := HQ.out
      rw [Nat.sub_self] at hq
      have HQ' := Aside0.mk hq
      clear hq
      go_wp2
      go_ret
      exact ⟨by rw [HQ'.out]; rfl, HB.out⟩
end Go.Proofs.YtllgfccckcgekaaDoor
