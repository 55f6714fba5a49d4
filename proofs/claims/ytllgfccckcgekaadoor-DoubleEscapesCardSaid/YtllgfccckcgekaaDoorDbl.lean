/- What double.number, digits, runes, escape compute. Conditions: bytes are bytes. -/
import Derived.Test.YtllgfccckcgekaaDoorPathF
import Derived.Test.YtllgfccckcgekaaDoorStr
import Derived.Laws.BitsAllLaws
namespace Go.Proofs.YtllgfccckcgekaaDoor
set_option maxRecDepth 100000
set_option maxHeartbeats 1000000
open Go.RowKit Go.Proofs.YtllgfccckcgekaaDoorW.PrintWords Go.Proofs.YtllgfccckcgekaaDoorW.PrintLast Go.Proofs.YtllgfccckcgekaaDoorW.PrintMore

theorem byte_fin {P : Int → Prop} (h : ∀ c : Fin 256, P (c.val : Int)) (c : Int) (h0 : 0 ≤ c) (h1 : c ≤ 255) : P c := by
  obtain ⟨n, rfl⟩ := Int.eq_ofNat_of_zero_le h0
  exact h ⟨n, by omega⟩
def capC (c : Int) : Int := if 97 ≤ c ∧ c ≤ 102 then c - 32 else c
theorem index_hex (c : Int) (h0 : 0 ≤ c) (h1 : c ≤ 255) : Lib.indexByte [48, 49, 50, 51, 52, 53, 54, 55, 56, 57, 65, 66, 67, 68, 69, 70] (capC c).toNat.toUInt8 = (hexV c).getD (-1) ∧ (∀ d, hexV c = some d → 0 ≤ d ∧ d < 16) :=
  byte_fin (P := fun c => Lib.indexByte [48, 49, 50, 51, 52, 53, 54, 55, 56, 57, 65, 66, 67, 68, 69, 70] (capC c).toNat.toUInt8 = (hexV c).getD (-1) ∧ (∀ d, hexV c = some d → 0 ≤ d ∧ d < 16)) (by
    have h : ∀ c : Fin 256, Lib.indexByte [48, 49, 50, 51, 52, 53, 54, 55, 56, 57, 65, 66, 67, 68, 69, 70] (capC (c.val : Int)).toNat.toUInt8 = (hexV (c.val : Int)).getD (-1) ∧ (match hexV (c.val : Int) with | some d => decide (0 ≤ d) && decide (d < 16) | none => true) = true := by decide +kernel
    intro c
    refine ⟨(h c).1, fun d hd => ?_⟩
    have h2 := (h c).2
    rw [hd] at h2
    simpa using h2) c h0 h1
theorem digits_calls (c : Int) (w : World) : Calls Tryd.prog 122 #[.int .u8 c] w fun e w' => e = .returned (.int .i64 (digN c)) ∧ w = w' := by
  by_cases h1 : c = 120
  · subst h1
    go_enter Tryd.func122, Tryd.ntmps122
    go_wp2
    go_ret
    exact ⟨rfl, rfl⟩
  · by_cases h2 : c = 117
    · subst h2
      go_enter Tryd.func122, Tryd.ntmps122
      go_wp2
      go_ret
      exact ⟨rfl, rfl⟩
    · by_cases h3 : c = 85
      · subst h3
        go_enter Tryd.func122, Tryd.ntmps122
        go_wp2
        go_ret
        exact ⟨rfl, rfl⟩
      · have b1 : (c == 120) = false := by simpa using h1
        have b2 : (c == 117) = false := by simpa using h2
        have b3 : (c == 85) = false := by simpa using h3
        have H : Aside0 (digN c = 0) := ⟨by simp [digN, h1, h2, h3]⟩
        clear h1 h2 h3
        go_enter Tryd.func122, Tryd.ntmps122
        go_wp2
        go_ret
        exact ⟨by rw [H.out]; rfl, rfl⟩
theorem runes_calls (w : World) : Calls Tryd.prog 121 #[] w fun e w' => e = .returned (.slice (some ⟨w.heap.size, 0, none⟩) 13 13) ∧ w' = w.alloc (.cells #[.int .i32 0, .int .i32 7, .int .i32 8, .int .i32 9, .int .i32 10, .int .i32 11, .int .i32 12, .int .i32 13, .int .i32 27, .int .i32 133, .int .i32 160, .int .i32 8232, .int .i32 8233] 21) := by
  go_enter Tryd.func121, Tryd.ntmps121
  go_wp2
  go_ret
  exact ⟨rfl, rfl⟩
theorem or_hex (v d : Int) (h0 : 0 ≤ v) (h1 : v < 268435456) (d0 : 0 ≤ d) (d1 : d < 16) : bits .or .u32 (v * 16) d = 16 * v + d := by
  obtain ⟨a, rfl⟩ := Int.eq_ofNat_of_zero_le h0
  obtain ⟨b, rfl⟩ := Int.eq_ofNat_of_zero_le d0
  have h := u32_or_nat (a * 16) b (by omega) (by omega)
  have e : a * 16 ||| b = a * 16 + b := by
    have := Nat.shiftLeft_add_eq_or_of_lt (i := 4) (b := b) (by omega) a
    rw [Nat.shiftLeft_eq] at this
    exact this.symm
  rw [e] at h
  push_cast at h
  rw [h]
  omega
def u32ret (o : Option Int) : Value := match o with | some v => .tuple #[.int .u32 v, .bool true] | none => .tuple #[.int .u32 0, .bool false]
theorem sixteen_calls (x : Int) (h0 : 0 ≤ x) (h1 : x ≤ 255) (w : World) : Calls Tryd.prog 120 #[.string ⟨#[48, 49, 50, 51, 52, 53, 54, 55, 56, 57, 65, 66, 67, 68, 69, 70]⟩, .int .u8 (capC x)] w fun e w' => e = .returned (.int .i64 ((hexV x).getD (-1))) ∧ w = w' :=
  (Tryd.strings_IndexByte ⟨#[48, 49, 50, 51, 52, 53, 54, 55, 56, 57, 65, 66, 67, 68, 69, 70]⟩ (capC x) w).mono fun _ _ ⟨he, hw⟩ => ⟨by rw [he]; exact congrArg (fun z => Ending.returned (.int .i64 z)) (index_hex x h0 h1).1, hw.symm⟩
theorem hexN_step {n k : Nat} {v x : Int} {xs : List Int} (hk : k < n) (hx : xs[k]? = some x) : hexN (n - k) v (xs.drop k) = match hexV x with | none => none | some d => hexN (n - (k + 1)) (16 * v + d) (xs.drop (k + 1)) := by
  obtain ⟨h1, h2⟩ := List.getElem?_eq_some_iff.1 hx
  rw [List.drop_eq_getElem_cons h1, h2]
  obtain ⟨q, hq⟩ : ∃ q, n - k = q + 1 := ⟨n - k - 1, by omega⟩
  rw [hq, show n - (k + 1) = q by omega]
  rfl
theorem pow_hex {k : Nat} (h : k < 8) {v d : Int} (hv : v < 16 ^ k) (hd : d < 16) : v < 268435456 ∧ 16 * v + d < 16 ^ (k + 1) := by
  have h1 : k = 0 ∨ k = 1 ∨ k = 2 ∨ k = 3 ∨ k = 4 ∨ k = 5 ∨ k = 6 ∨ k = 7 := by omega
  rcases h1 with rfl | rfl | rfl | rfl | rfl | rfl | rfl | rfl <;> simp at hv ⊢ <;> omega
theorem numberD_calls (A : Option Addr) (m c n : Nat) (xs : List Int) (w : World) (hx : (Kd.int .u8).C w A m xs) (bx : Byt xs) (hc : m ≤ c) (hn : n ≤ 8) :
    Calls Tryd.prog 123 #[.slice A m c, .int .i64 n] w fun e w' => e = .returned (u32ret (hexN n 0 xs)) ∧ w = w' := by
  have HX := Aside0.mk hx
  have HBX := Aside0.mk bx
  have hl := hx.1
  have hml := hx.2.1
  by_cases hs : m < n
  · have H : Aside0 (hexN n 0 xs = none) := ⟨by
      cases h : hexN n 0 xs with
      | none => rfl
      | some v => have := hexN_le _ _ _ _ h; omega⟩
    clear hx bx
    go_enter Tryd.func123, Tryd.ntmps123
    go_wp2
    go_ret2
    exact ⟨by rw [H.out]; rfl, rfl⟩
  · clear hx bx
    go_enter Tryd.func123, Tryd.ntmps123
    go_wp2
    go_loop [18, 6, 8, 9] (fun i o _ _ => ∃ (k : Nat) (v : Int), k ≤ n ∧ i = .int .i64 k ∧ o = .int .u32 v ∧ 0 ≤ v ∧ Aside0 (v < 16 ^ k) ∧ Aside0 (hexN n 0 xs = hexN (n - k) v (xs.drop k))) (fun i _ _ _ => n - (intOf i).toNat)
    case atStart => exact ⟨0, 0, by omega, rfl, rfl, by omega, ⟨by decide⟩, ⟨rfl⟩⟩
    case round =>
      obtain ⟨k, v, hk, rfl, rfl, hv, HV, HE⟩ := hrel
      by_cases hlt : k < n
      · obtain ⟨ad, rfl, hcell⟩ := Kd.at_int HX.out k (by omega) (by omega)
        rw [Int.toNat_natCast] at hcell
        obtain ⟨x, hxe⟩ : ∃ x, rd xs k = x := ⟨_, rfl⟩
        rw [hxe] at hcell
        have hget : xs[k]? = some x := by rw [← hxe]; simp [rd, List.getElem?_eq_getElem (show k < xs.length by omega)]
        have hb := HBX.out x (List.mem_of_getElem? hget)
        have hb0 := hb.1
        have hb1 := hb.2
        have HG := Aside0.mk (hexN_step (v := v) hlt hget)
        have hcall := sixteen_calls x hb0 hb1 w
        have hd := (index_hex x hb0 hb1).2
        have hv2 := (pow_hex (k := k) (by omega) HV.out (d := 0) (by decide)).1
        clear hget hxe hb
        cases hq : hexV x with
        | none =>
          rw [hq] at hcall HG
          have HC := Aside0.mk hcall
          clear hcall hd hq
          go_wp2_with fail
          all_goals
            refine (by have h := HC.out; unfold capC at h; (first | rw [if_pos ⟨‹_›, ‹_›⟩, show x - 32 = x - 97 + 65 by omega] at h | rw [if_neg (by omega)] at h); exact h : Calls _ _ _ _ _).mono ?_
            rintro e w' ⟨rfl, rfl⟩
            go_wp2
            go_ret2
            exact ⟨by rw [HE.out, HG.out]; rfl, rfl⟩
        | some d =>
          rw [hq] at hcall HG
          have hd2 := hd d hq
          have hor := or_hex v d hv hv2 hd2.1 hd2.2
          have hp := (pow_hex (k := k) (by omega) HV.out hd2.2).2
          have HP := Aside0.mk hp
          have HC := Aside0.mk hcall
          have HOR := Aside0.mk hor
          have hd0 := hd2.1
          have hd1 := hd2.2
          clear hcall hd hq hor hp hd2
          go_wp2_with fail
          all_goals
            refine (by have h := HC.out; unfold capC at h; (first | rw [if_pos ⟨‹_›, ‹_›⟩, show x - 32 = x - 97 + 65 by omega] at h | rw [if_neg (by omega)] at h); exact h : Calls _ _ _ _ _).mono ?_
            rintro e w' ⟨rfl, rfl⟩
            go_wp2
            go_round
            case rel => exact ⟨k + 1, 16 * v + d, by omega, by go_num, by rw [HOR.out], by omega, ⟨HP.out⟩, ⟨by rw [HE.out, HG.out]⟩⟩
            case measure => simp [intOf]; omega
      · obtain rfl : k = n := by omega
        have h : hexN k 0 xs = some v := by rw [HE.out, Nat.sub_self]; rfl
        have H := Aside0.mk h
        clear h
        go_wp2
        go_ret2
        exact ⟨by rw [H.out]; rfl, rfl⟩
end Go.Proofs.YtllgfccckcgekaaDoor
