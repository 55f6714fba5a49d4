/- What double.one computes. Condition: a rune from 0 on. -/
import Derived.Test.YtllgfccckcgekaaDoorPutA
namespace Go.Proofs.YtllgfccckcgekaaDoor
set_option maxRecDepth 100000
set_option maxHeartbeats 4000000
open Go.RowKit Go.Proofs.YtllgfccckcgekaaDoorW.PrintWords Go.Proofs.YtllgfccckcgekaaDoorW.PrintLast Go.Proofs.YtllgfccckcgekaaDoorW.PrintMore

theorem enc_str (r : Int) : Utf8.encode r = strOfNums (Lib.encodeRuneZ r) := by
  have e : ∀ x : Int, ∀ n : Nat, x.toNat = n → UInt8.ofNat n = x.toNat.toUInt8 := by rintro x n rfl; rfl
  unfold Utf8.encode
  rw [validRune_eq]
  by_cases hv : validRune r = true
  · have hv' := hv
    simp only [validRune, decide_eq_true_eq] at hv'
    simp only [hv, if_true]
    by_cases h1 : r.toNat < 128
    · rw [if_pos h1, Lib.encodeRuneZ_one (by omega) (by omega)]
      show (⟨#[_]⟩ : ByteArray) = ⟨#[_]⟩
      rw [e r r.toNat rfl]
    · rw [if_neg h1]
      by_cases h2 : r.toNat < 2048
      · rw [if_pos h2, Lib.encodeRuneZ_two (by omega) (by omega)]
        show (⟨#[_, _]⟩ : ByteArray) = ⟨#[_, _]⟩
        rw [e (192 + r / 64) (192 + r.toNat / 64) (by omega), e (128 + r % 64) (128 + r.toNat % 64) (by omega)]
      · rw [if_neg h2]
        by_cases h3 : r.toNat < 65536
        · rw [if_pos h3, Lib.encodeRuneZ_three (by omega)]
          show (⟨#[_, _, _]⟩ : ByteArray) = ⟨#[_, _, _]⟩
          rw [e (224 + r / 4096) (224 + r.toNat / 4096) (by omega), e (128 + r / 64 % 64) (128 + r.toNat / 64 % 64) (by omega), e (128 + r % 64) (128 + r.toNat % 64) (by omega)]
        · rw [if_neg h3, Lib.encodeRuneZ_four (by omega) (by omega)]
          show (⟨#[_, _, _, _]⟩ : ByteArray) = ⟨#[_, _, _, _]⟩
          rw [e (240 + r / 262144) (240 + r.toNat / 262144) (by omega), e (128 + r / 4096 % 64) (128 + r.toNat / 4096 % 64) (by omega), e (128 + r / 64 % 64) (128 + r.toNat / 64 % 64) (by omega), e (128 + r % 64) (128 + r.toNat % 64) (by omega)]
  · have hv' := hv
    simp only [validRune, decide_eq_true_eq] at hv'
    simp only [Bool.not_eq_true] at hv
    rw [Lib.encodeRuneZ_bad (by omega)]
    simp only [hv, Bool.false_eq_true, if_false, Utf8.runeError]
    decide +kernel
/-- The letter of a rune's escape. -/
def letF (r : Int) : Option Int :=
  if r = 0 then some 48 else if r = 7 then some 97 else if r = 8 then some 98 else if r = 9 then some 116 else if r = 10 then some 110 else if r = 11 then some 118 else if r = 12 then some 102 else if r = 13 then some 114
  else if r = 27 then some 101 else if r = 133 then some 78 else if r = 160 then some 95 else if r = 8232 then some 76 else if r = 8233 then some 80 else none
/-- A rune, as it is written in double quotes. -/
def oneF (r : Int) : List Int := match letF r with
  | some c => [92, c]
  | none => if r = 34 ∨ r = 92 then [92, r] else if printF r then Lib.encodeRuneZ r else if r < 256 then [92, 120] ++ hexS 2 r else if r < 65536 then [92, 117] ++ hexS 4 r else [92, 85] ++ hexS 8 r
theorem one_let : ∀ k : Fin 13, letF (rd runesL (k.val : Int)) ≠ none ∧ (⟨#[92]⟩ : ByteArray) ++ (⟨#[48, 97, 98, 116, 110, 118, 102, 114, 101, 78, 95, 76, 80]⟩ : ByteArray).extract k.val (k.val + 1) = strOfNums (oneF (rd runesL (k.val : Int))) := by decide +kernel
theorem letF_none {r : Int} (h : r ∉ runesL) : letF r = none := by
  simp [runesL] at h
  simp [letF, h]
theorem one34 : (⟨#[92]⟩ : ByteArray) ++ Utf8.encode 34 = strOfNums (oneF 34) := by decide +kernel
theorem one92 : (⟨#[92]⟩ : ByteArray) ++ Utf8.encode 92 = strOfNums (oneF 92) := by decide +kernel
theorem oneF_print {r : Int} (h : letF r = none) (h1 : ¬ r = 34) (h2 : ¬ r = 92) (h3 : printF r = true) : oneF r = Lib.encodeRuneZ r := by
  unfold oneF
  rw [h]
  simp [h1, h2, h3]
theorem oneF_hex {r : Int} (h : letF r = none) (h1 : ¬ r = 34) (h2 : ¬ r = 92) (h3 : printF r = false) : oneF r = if r < 256 then [92, 120] ++ hexS 2 r else if r < 65536 then [92, 117] ++ hexS 4 r else [92, 85] ++ hexS 8 r := by
  unfold oneF
  rw [h]
  simp [h1, h2, h3]
theorem one_calls (r : Int) (h0 : 0 ≤ r) (h1 : r ≤ 1114111) (w : World) : Calls Tryd.prog 127 #[.int .i32 r] w fun e w' => e = .returned (.string (strOfNums (oneF r))) ∧ Below w.heap.size w w' := by
  have HR := Aside0.mk (runes_calls w)
  go_enter Tryd.func127, Tryd.ntmps127
  go_wp2_with fail
  refine HR.out.mono ?_
  rintro e w1 ⟨rfl, rfl⟩
  go_wp2_with fail
  go_loop [7, 3, 4] (fun i _ _ => ∃ k : Nat, k ≤ 13 ∧ i = .int .i64 k ∧ Aside0 (∀ j < k, rd runesL (j : Int) ≠ r)) (fun i _ _ => 13 - (intOf i).toNat)
  case atStart => exact ⟨0, by omega, rfl, ⟨fun j hj => by omega⟩⟩
  case round =>
    obtain ⟨k, hk, rfl, HN⟩ := hrel
    by_cases hlt : k < 13
    · have hcell := runes_cell w k hlt
      have hone := one_let ⟨k, hlt⟩
      obtain ⟨y, hy⟩ : ∃ y, rd runesL (k : Int) = y := ⟨_, rfl⟩
      simp only at hone
      rw [hy] at hcell hone
      have HY := Aside0.mk hy
      have HONE := Aside0.mk hone
      clear hy hone
      by_cases hyr : y = r
      · subst hyr
        have hsl := slice_one ⟨#[48, 97, 98, 116, 110, 118, 102, 114, 101, 78, 95, 76, 80]⟩ k hlt
        go_wp2
        go_ret
        exact ⟨by rw [← HONE.out.2]; rfl, below_alloc (Below.refl _ _) _⟩
      · have b : (y == r) = false := by simpa using hyr
        go_wp2
        go_round
        case rel => exact ⟨k + 1, by omega, by go_num, ⟨fun j hj => by
          by_cases e : j = k
          · subst e; rw [HY.out]; exact hyr
          · exact HN.out j (by omega)⟩⟩
        case measure => simp [intOf]; omega
    · obtain rfl : k = 13 := by omega
      have hl : letF r = none := letF_none (fun h => by
        obtain ⟨j, hj⟩ := List.getElem?_of_mem h
        have hjl := (List.getElem?_eq_some_iff.1 hj).1
        exact HN.out j hjl (by simp only [rd, Int.toNat_natCast, List.getD_eq_getElem?_getD, hj, Option.getD_some]))
      have HL := Aside0.mk hl
      clear hl HN
      have HA := Aside0.mk (below_alloc (Below.refl w.heap.size w) (.cells #[.int .i32 0, .int .i32 7, .int .i32 8, .int .i32 9, .int .i32 10, .int .i32 11, .int .i32 12, .int .i32 13, .int .i32 27, .int .i32 133, .int .i32 160, .int .i32 8232, .int .i32 8233] 21))
      by_cases e34 : r = 34
      · subst e34
        clear HR HL
        go_wp2
        go_ret
        exact ⟨congrArg (fun s => Ending.returned (.string s)) one34, HA.out⟩
      · by_cases e92 : r = 92
        · subst e92
          clear HR HL
          go_wp2
          go_ret
          exact ⟨congrArg (fun s => Ending.returned (.string s)) one92, HA.out⟩
        · have b34 : (r == 34) = false := by simpa using e34
          have b92 : (r == 92) = false := by simpa using e92
          have hp := Printable_calls r (w.alloc (.cells #[.int .i32 0, .int .i32 7, .int .i32 8, .int .i32 9, .int .i32 10, .int .i32 11, .int .i32 12, .int .i32 13, .int .i32 27, .int .i32 133, .int .i32 160, .int .i32 8232, .int .i32 8233] 21))
          have HE34 := Aside0.mk e34
          have HE92 := Aside0.mk e92
          have HENC := Aside0.mk (enc_str r)
          cases hpr : printF r with
          | true =>
            rw [hpr] at hp
            have HP := Aside0.mk hp
            have HPR := Aside0.mk hpr
            clear hp hpr
            go_wp2_with (go_at_call 144; refine HP.out.mono ?_; rintro e w' ⟨rfl, rfl⟩)
            go_ret
            refine ⟨?_, HA.out⟩
            rw [oneF_print HL.out HE34.out HE92.out HPR.out, ← HENC.out]
            rfl
          | false =>
            rw [hpr] at hp
            have HP := Aside0.mk hp
            have HPR := Aside0.mk hpr
            have H2 : Aside0 (∀ w : World, Calls Tryd.prog 145 #[.int .u32 r, .int .i64 2] w fun e w' => e = .returned (.string (strOfNums (hexS 2 r))) ∧ Below w.heap.size w w') := ⟨Hex_calls r 2 h0 (by omega) (by omega)⟩
            have H4 : Aside0 (∀ w : World, Calls Tryd.prog 145 #[.int .u32 r, .int .i64 4] w fun e w' => e = .returned (.string (strOfNums (hexS 4 r))) ∧ Below w.heap.size w w') := ⟨Hex_calls r 4 h0 (by omega) (by omega)⟩
            have H8 : Aside0 (∀ w : World, Calls Tryd.prog 145 #[.int .u32 r, .int .i64 8] w fun e w' => e = .returned (.string (strOfNums (hexS 8 r))) ∧ Below w.heap.size w w') := ⟨Hex_calls r 8 h0 (by omega) (by omega)⟩
            have s2 : (strOfNums (hexS 2 r)).size ≤ 8 := by rw [size_str]; simp [hexS]
            have s4 : (strOfNums (hexS 4 r)).size ≤ 8 := by rw [size_str]; simp [hexS]
            have s8 : (strOfNums (hexS 8 r)).size ≤ 8 := by rw [size_str]; simp [hexS]
            clear hp hpr
            have hh : r < 256 ∨ (256 ≤ r ∧ r < 65536) ∨ 65536 ≤ r := by omega
            rcases hh with hh | ⟨hh, hh2⟩ | hh
            · have HH := Aside0.mk hh
              go_wp2_with (first | (go_at_call 144; refine HP.out.mono ?_; rintro e w' ⟨rfl, rfl⟩) | (go_at_call 145; refine (H2.out _).mono ?_; rintro e w' ⟨rfl, hb⟩))
              go_ret
              refine ⟨?_, below_step HA.out hb⟩
              rw [oneF_hex HL.out HE34.out HE92.out HPR.out, if_pos HH.out, strOfNums_app]
              rfl
            · have HH := Aside0.mk (show ¬ r < 256 by omega)
              have HH2 := Aside0.mk hh2
              go_wp2_with (first | (go_at_call 144; refine HP.out.mono ?_; rintro e w' ⟨rfl, rfl⟩) | (go_at_call 145; refine (H4.out _).mono ?_; rintro e w' ⟨rfl, hb⟩))
              go_ret
              refine ⟨?_, below_step HA.out hb⟩
              rw [oneF_hex HL.out HE34.out HE92.out HPR.out, if_neg (show ¬ r < 256 by omega), if_pos HH2.out, strOfNums_app]
              rfl
            · have HH := Aside0.mk (show ¬ r < 256 by omega)
              have HH2 := Aside0.mk (show ¬ r < 65536 by omega)
              go_wp2_with (first | (go_at_call 144; refine HP.out.mono ?_; rintro e w' ⟨rfl, rfl⟩) | (go_at_call 145; refine (H8.out _).mono ?_; rintro e w' ⟨rfl, hb⟩))
              go_ret
              refine ⟨?_, below_step HA.out hb⟩
              rw [oneF_hex HL.out HE34.out HE92.out HPR.out, if_neg (show ¬ r < 256 by omega), if_neg (show ¬ r < 65536 by omega), strOfNums_app]
              rfl
end Go.Proofs.YtllgfccckcgekaaDoor
