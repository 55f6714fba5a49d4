/- What scholiumref18.number computes. Conditions: texts of at most 1000001 bytes. -/
import Derived.Test.YtllgfccckcgekaaDoorPathNum
namespace Go.Proofs.YtllgfccckcgekaaDoor
set_option maxRecDepth 100000
set_option maxHeartbeats 8000000
open Go.RowKit Go.Proofs.YtllgfccckcgekaaDoorW.PrintWords Go.Proofs.YtllgfccckcgekaaDoorW.PrintLast Go.Proofs.YtllgfccckcgekaaDoorW.PrintMore

def numR (xs : List Int) : Int × Int := match numberF xs with | some (v, _) => (v, ((xs.takeWhile digitF).length : Int)) | none => (0, 0)
theorem numV_snoc (xs : List Int) (c : Int) : numV (xs ++ [c]) = numV xs * 10 + (c - 48) := by
  simp [numV, List.foldl_append]
theorem numV_take {xs : List Int} {k : Nat} {c : Int} (h : xs[k]? = some c) : numV (xs.take (k + 1)) = 10 * numV (xs.take k) + (c - 48) := by
  rw [List.take_add_one, h, Option.toList_some, numV_snoc]
  omega
theorem numberR_calls (s : ByteArray) (w : World) (hs : s.size ≤ 1000001) : Calls Tryd.prog 99 #[.string s] w fun e w' => e = .returned (.tuple #[.int .i64 (numR (bytesOf s)).1, .int .i64 (numR (bytesOf s)).2]) ∧ w = w' := by
  have hwl := takeWhile_le (p := digitF) (bytesOf s)
  have htw := tw_eq (p := digitF) (bytesOf s)
  rw [bytesOf_length] at hwl
  obtain ⟨W, hW⟩ : ∃ W, ((bytesOf s).takeWhile digitF).length = W := ⟨_, rfl⟩
  rw [hW] at hwl htw
  have hup : ∀ k, ∀ h : k < s.size, k < W → 48 ≤ (s[k].toNat : Int) ∧ (s[k].toNat : Int) ≤ 57 := fun k h hk => by
    have := (tw_take (p := digitF) (bytesOf s) k (by omega) _ (str_at s k h)).1 (by omega)
    simpa [digitF] using this
  have hst : ∀ h : W < s.size, (s[W].toNat : Int) < 48 ∨ 57 < (s[W].toNat : Int) := fun h => by
    have := tw_take (p := digitF) (bytesOf s) W (by omega) _ (str_at s W h)
    have h2 : digitF (s[W].toNat : Int) = false := by
      cases hc : digitF (s[W].toNat : Int) with
      | false => rfl
      | true => have := this.2 hc; omega
    unfold digitF at h2
    rw [Bool.and_eq_false_iff, decide_eq_false_iff_not, decide_eq_false_iff_not] at h2
    omega
  have hnum : numR (bytesOf s) = if W < 1 ∨ 6 < W ∨ (1 < W ∧ (bytesOf s).head? = some 48) then (0, 0) else (numV ((bytesOf s).take W), (W : Int)) := by
    have h2 : ((bytesOf s).takeWhile digitF).head? = if 0 < W then (bytesOf s).head? else none := by
      rw [htw]
      cases W with
      | zero => rfl
      | succ n => cases bytesOf s <;> rfl
    unfold numR numberF
    simp only [hW, h2, ← htw]
    by_cases h1 : 1 < W
    · simp only [h1, true_and, if_pos (show 0 < W by omega)]
      by_cases h6 : W < 1 ∨ 6 < W ∨ (bytesOf s).head? = some 48
      · simp only [if_pos h6]
      · simp only [if_neg h6]
    · simp only [h1, false_and]
      by_cases h6 : W < 1 ∨ 6 < W ∨ False
      · simp only [if_pos h6]
      · simp only [if_neg h6]
  have hstep : ∀ k, ∀ h : k < s.size, numV ((bytesOf s).take (k + 1)) = 10 * numV ((bytesOf s).take k) + ((s[k].toNat : Int) - 48) := fun k h => numV_take (str_at s k h)
  have hbd : ∀ k, k ≤ 7 → k ≤ W → 0 ≤ numV ((bytesOf s).take k) ∧ numV ((bytesOf s).take k) ≤ 10 ^ k - 1 := by
    intro k
    induction k with
    | zero => intro _ _; simp [numV]
    | succ k ih =>
      intro h7 hkW
      have hlt : k < s.size := by omega
      have h1 := ih (by omega) (by omega)
      have h2 := hup k hlt (by omega)
      rw [hstep k hlt]
      have e : (10 : Int) ^ (k + 1) = 10 * 10 ^ k := by rw [Int.pow_succ]; omega
      omega
  have hb7 : ∀ k, k ≤ 7 → k ≤ W → 0 ≤ numV ((bytesOf s).take k) ∧ numV ((bytesOf s).take k) ≤ 9999999 := fun k h7 hk => by
    have := hbd k h7 hk
    have e : (10 : Int) ^ k ≤ 10 ^ 7 := by
      have : ∀ k : Fin 8, (10 : Int) ^ k.val ≤ 10 ^ 7 := by decide
      exact this ⟨k, by omega⟩
    omega
  have HUP := Aside0.mk hup
  have HST := Aside0.mk hst
  have HNUM := Aside0.mk hnum
  have HSTEP := Aside0.mk hstep
  have HB7 := Aside0.mk hb7
  have hh0 : ∀ h : 0 < s.size, (bytesOf s).head? = some (s[0].toNat : Int) := fun h => by rw [List.head?_eq_getElem?]; exact str_at s 0 h
  have HH0 := Aside0.mk hh0
  clear hup hst hnum hstep hb7 hbd htw hW hh0
  go_enter Tryd.func99, Tryd.ntmps99
  go_wp2_with fail
  go_loop [4, 5] (fun i v => ∃ k : Nat, k ≤ W ∧ i = .int .i64 k ∧ ∃ x : Int, v = .int .i64 x ∧ 0 ≤ x ∧ x ≤ 9999999 ∧ Aside0 (k ≤ 7 → x = numV ((bytesOf s).take k))) (fun i _ => s.size - (intOf i).toNat)
  case atStart => exact ⟨0, by omega, rfl, 0, rfl, by omega, by omega, ⟨fun _ => by simp [numV]⟩⟩
  case round =>
    obtain ⟨k, hk, rfl, x, rfl, hx0, hx1, HX⟩ := hrel
    have hkc : k < W ∨ k = W := by omega
    rcases hkc with hkW | rfl
    · have hlt : k < s.size := by omega
      obtain ⟨y, hy⟩ : ∃ y : Int, (s[k].toNat : Int) = y := ⟨_, rfl⟩
      have h2 := HUP.out k hlt hkW
      have h3 := HSTEP.out k hlt
      rw [hy] at h2 h3
      have H3 := Aside0.mk h3
      obtain ⟨h2, h2'⟩ := h2
      clear h3
      by_cases h7 : k < 7
      · have hx9 : x ≤ 999999 := by
          have h1 := HX.out (by omega)
          have h4 := HB7.out (k + 1) (by omega) (by omega)
          rw [H3.out, ← h1] at h4
          omega
        go_wp2
        go_round
        case rel => exact ⟨k + 1, by omega, by go_num, 10 * x + (y - 48), by go_num, by omega, by omega, ⟨fun _ => by rw [H3.out, HX.out (by omega)]⟩⟩
        case measure => simp [intOf]; omega
      · go_wp2
        go_round
        case rel => exact ⟨k + 1, by omega, by go_num, x, by go_num, by omega, by omega, ⟨fun h => by omega⟩⟩
        case measure => simp [intOf]; omega
    · have hcase : (k < 1 ∨ 6 < k ∨ (1 < k ∧ k ≤ 6 ∧ (∃ h : 0 < s.size, ((s[0].toNat : Int) == 48) = true) ∧ Aside0 ((bytesOf s).head? = some 48)) ∨ (1 < k ∧ k ≤ 6 ∧ (∃ h : 0 < s.size, ((s[0].toNat : Int) == 48) = false) ∧ Aside0 (¬ (bytesOf s).head? = some 48)) ∨ (1 ≤ k ∧ k ≤ 1)) := by
        by_cases h0 : 0 < s.size
        · have hh := HH0.out h0
          by_cases h48 : (s[0].toNat : Int) = 48
          · have h : (bytesOf s).head? = some 48 := by rw [hh, h48]
            have b : ((s[0].toNat : Int) == 48) = true := by simpa using h48
            by_cases h1 : k < 1
            · exact .inl h1
            · by_cases h6 : 6 < k
              · exact .inr (.inl h6)
              · by_cases h2 : 1 < k
                · exact .inr (.inr (.inl ⟨h2, by omega, ⟨h0, b⟩, ⟨h⟩⟩))
                · exact .inr (.inr (.inr (.inr (by omega))))
          · have h : ¬ (bytesOf s).head? = some 48 := by rw [hh]; simpa using h48
            have b : ((s[0].toNat : Int) == 48) = false := by simpa using h48
            by_cases h1 : k < 1
            · exact .inl h1
            · by_cases h6 : 6 < k
              · exact .inr (.inl h6)
              · by_cases h2 : 1 < k
                · exact .inr (.inr (.inr (.inl ⟨h2, by omega, ⟨h0, b⟩, ⟨h⟩⟩)))
                · exact .inr (.inr (.inr (.inr (by omega))))
        · exact .inl (by omega)
      have hlt : (k < s.size ∧ ∃ h : k < s.size, (s[k].toNat : Int) < 48) ∨ (k < s.size ∧ ∃ h : k < s.size, 57 < (s[k].toNat : Int) ∧ 48 ≤ (s[k].toNat : Int)) ∨ s.size ≤ k := by
        rcases Nat.lt_or_ge k s.size with h | h
        · rcases HST.out h with h1 | h1
          · exact .inl ⟨h, h, h1⟩
          · exact .inr (.inl ⟨h, h, h1, by omega⟩)
        · exact .inr (.inr h)
      rcases hcase with hc | hc | ⟨hc1, hc2, ⟨hs0, hb⟩, hh⟩ | ⟨hc1, hc2, ⟨hs0, hb⟩, hh⟩ | ⟨hc1, hc2⟩
      · rcases hlt with ⟨hlt, h', h1⟩ | ⟨hlt, h', h1, h2⟩ | hke
        all_goals
          go_wp2
          go_ret2
          have hx : x = 0 := by
            rw [HX.out (by omega), show k = 0 by omega]; rfl
          refine ⟨?_, rfl⟩
          show Ending.returned (.tuple #[.int .i64 x, .int .i64 (k : Int)]) = _
          rw [HNUM.out, if_pos (.inl (by omega)), hx, show (k : Int) = 0 by omega]
      · rcases hlt with ⟨hlt, h', h1⟩ | ⟨hlt, h', h1, h2⟩ | hke
        all_goals
          go_wp2
          go_ret2
          exact ⟨by rw [HNUM.out, if_pos (.inr (.inl (by omega)))]; rfl, rfl⟩
      · rcases hlt with ⟨hlt, h', h1⟩ | ⟨hlt, h', h1, h2⟩ | hke
        all_goals
          go_wp2
          go_ret2
          exact ⟨by rw [HNUM.out, if_pos (.inr (.inr ⟨by omega, hh.out⟩))]; rfl, rfl⟩
      · rcases hlt with ⟨hlt, h', h1⟩ | ⟨hlt, h', h1, h2⟩ | hke
        all_goals
          go_wp2
          go_ret2
          exact ⟨by rw [HNUM.out, if_neg (fun h => by rcases h with h | h | h <;> first | omega | exact hh.out h.2), HX.out (by omega)]; rfl, rfl⟩
      · rcases hlt with ⟨hlt, h', h1⟩ | ⟨hlt, h', h1, h2⟩ | hke
        all_goals
          go_wp2
          go_ret2
          exact ⟨by rw [HNUM.out, if_neg (fun h => by rcases h with h | h | h <;> omega), HX.out (by omega)]; rfl, rfl⟩
end Go.Proofs.YtllgfccckcgekaaDoor
