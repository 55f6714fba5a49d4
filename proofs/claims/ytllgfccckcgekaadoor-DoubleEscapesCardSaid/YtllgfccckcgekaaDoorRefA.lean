/- What scholiumref01's Letter, Name, digit, escape, utf8 compute. Conditions: bytes are bytes, runes are runes. -/
import Derived.Test.YtllgfccckcgekaaDoorTakeD
import Derived.Test.YtllgfccckcgekaaDoorPathNum
import Derived.Laws.BitsLemmas
namespace Go.Proofs.YtllgfccckcgekaaDoor
set_option maxRecDepth 100000
set_option maxHeartbeats 4000000
open Go.RowKit Go.Proofs.YtllgfccckcgekaaDoorW.PrintWords Go.Proofs.YtllgfccckcgekaaDoorW.PrintLast Go.Proofs.YtllgfccckcgekaaDoorW.PrintMore

theorem LetterR_calls (c : Int) (w : World) : Calls Tryd.prog 101 #[.int .u8 c] w fun e w' => e = .returned (.bool (letterF c)) ∧ w = w' := by
  have key : ∀ b, b = letterF c → Ending.returned (.bool b) = Ending.returned (.bool (letterF c)) := fun _ h => by rw [h]
  have KEY := Aside0.mk key
  clear key
  by_cases e1 : c = 45
  · subst e1
    clear KEY
    go_enter Tryd.func101, Tryd.ntmps101
    go_wp2
    go_ret
    exact ⟨rfl, rfl⟩
  · by_cases e2 : c = 95
    · subst e2
      clear KEY
      go_enter Tryd.func101, Tryd.ntmps101
      go_wp2
      go_ret
      exact ⟨rfl, rfl⟩
    · have b1 : (c == 45) = false := by simpa using e1
      have b2 : (c == 95) = false := by simpa using e2
      by_cases h1 : 65 ≤ c <;> by_cases h2 : c ≤ 90 <;> by_cases h3 : 97 ≤ c <;> by_cases h4 : c ≤ 122 <;> by_cases h5 : 48 ≤ c <;> by_cases h6 : c ≤ 57
      all_goals first
        | (exfalso; omega)
        | (go_enter Tryd.func101, Tryd.ntmps101
           go_wp2
           go_ret
           refine ⟨KEY.out _ ?_, rfl⟩
           unfold letterF digitF
           grind)
theorem digitR_calls (c : Int) (h0 : 0 ≤ c) (h255 : c ≤ 255) (w : World) : Calls Tryd.prog 130 #[.int .u8 c] w fun e w' => e = .returned (.int .i64 ((hexV c).getD (-1))) ∧ w = w' := by
  by_cases h1 : 48 ≤ c ∧ c ≤ 57
  · have H : Aside0 ((hexV c).getD (-1) = c - 48) := ⟨by simp [hexV, h1]⟩
    have a1 := h1.1
    have a2 := h1.2
    clear h1
    go_enter Tryd.func130, Tryd.ntmps130
    go_wp2
    go_ret
    exact ⟨by rw [H.out]; rfl, rfl⟩
  · by_cases h2 : 65 ≤ c ∧ c ≤ 70
    · have H : Aside0 ((hexV c).getD (-1) = c - 65 + 10) := ⟨by simp [hexV, h1, h2]; omega⟩
      have a1 := h2.1
      have a2 := h2.2
      clear h1 h2
      go_enter Tryd.func130, Tryd.ntmps130
      go_wp2
      go_ret
      exact ⟨by rw [H.out]; rfl, rfl⟩
    · by_cases h3 : 97 ≤ c ∧ c ≤ 102
      · have H : Aside0 ((hexV c).getD (-1) = c - 97 + 10) := ⟨by simp [hexV, h1, h2, h3]; omega⟩
        have a1 := h3.1
        have a2 := h3.2
        clear h1 h2 h3
        go_enter Tryd.func130, Tryd.ntmps130
        go_wp2
        go_ret
        exact ⟨by rw [H.out]; rfl, rfl⟩
      · have H : Aside0 ((hexV c).getD (-1) = -1) := ⟨by simp [hexV, h1, h2, h3]⟩
        have h4 : c < 48 ∨ (57 < c ∧ c < 65) ∨ (70 < c ∧ c < 97) ∨ 102 < c := by omega
        clear h1 h2 h3
        rcases h4 with h | ⟨h, h'⟩ | ⟨h, h'⟩ | h
        all_goals
          go_enter Tryd.func130, Tryd.ntmps130
          go_wp2
          go_ret
          exact ⟨by rw [H.out]; rfl, rfl⟩
theorem NameR_calls (s : ByteArray) (w : World) (hs : s.size ≤ 9223372036854775807) : Calls Tryd.prog 66 #[.string s] w fun e w' => e = .returned (.bool (nameF (bytesOf s))) ∧ w = w' := by
  have LB := Aside0.mk (bytesOf_length s)
  go_enter Tryd.func66, Tryd.ntmps66
  go_wp2_with fail
  go_loop [3] (fun i => ∃ k : Nat, k ≤ s.size ∧ i = .int .i64 k ∧ Aside0 (((bytesOf s).take k).all letterF = true)) (fun i => s.size - (intOf i).toNat)
  case atStart => exact ⟨0, by omega, rfl, ⟨by simp⟩⟩
  case round =>
    obtain ⟨k, hk, rfl, ha⟩ := hrel
    by_cases hlt : k < s.size
    · have hat := str_at s k hlt
      have hrd : rd (bytesOf s) k = (s[k].toNat : Int) := by simp only [rd, Int.toNat_natCast, List.getD_eq_getElem?_getD, hat, Option.getD_some]
      have hc := LetterR_calls (s[k].toNat : Int) w
      cases hl : letterF (s[k].toNat : Int) with
      | true =>
        have HL : Aside0 (letterF (rd (bytesOf s) k) = true) := ⟨by rw [hrd]; exact hl⟩
        rw [hl] at hc
        have HK := Aside0.mk hc
        clear hl hc hrd hat
        go_wp2_with (go_at_call 101; refine HK.out.mono ?_; rintro e w' ⟨rfl, rfl⟩)
        refine ⟨⟨k + 1, by omega, by go_num, ⟨all_snoc (by rw [LB.out]; exact hlt) ha.out HL.out⟩⟩, by simp [intOf]; omega⟩
      | false =>
        have HL : Aside0 (letterF (rd (bytesOf s) k) = false) := ⟨by rw [hrd]; exact hl⟩
        rw [hl] at hc
        have HK := Aside0.mk hc
        clear hl hc hrd hat
        go_wp2_with (go_at_call 101; refine HK.out.mono ?_; rintro e w' ⟨rfl, rfl⟩)
        go_ret
        exact ⟨by simp [nameF, rd_all (by rw [LB.out]; exact hlt) HL.out], rfl⟩
    · obtain rfl : k = s.size := by omega
      have hall : (bytesOf s).all letterF = true := by
        have := ha.out
        rwa [List.take_of_length_le (by rw [LB.out]; omega)] at this
      have HA := Aside0.mk hall
      clear hall
      by_cases h1 : 1 ≤ s.size <;> by_cases h2 : s.size ≤ 32
      all_goals
        first
          | (exfalso; omega)
          | (go_wp2
             go_ret
             refine ⟨?_, rfl⟩
             simp [nameF, HA.out, LB.out, h1, h2]
             try omega)
def fromR : List Int := [48, 97, 98, 116, 110, 118, 102, 114, 101, 34, 47, 92, 32, 78, 95, 76, 80]
def toR : List Int := [0, 7, 8, 9, 10, 11, 12, 13, 27, 34, 47, 92, 32, 133, 160, 8232, 8233]
theorem escR_some : ∀ k : Fin 17, escL (rd fromR (k.val : Int)) = some (rd toR (k.val : Int)) := by decide +kernel
theorem escR_none (c : Int) (h : c ∉ fromR) : escL c = none := by
  simp [fromR] at h
  simp [escL, h]
theorem toR_cell (w : World) (k : Nat) (hk : k < 17) : (w.alloc (.cells #[.int .i32 0, .int .i32 7, .int .i32 8, .int .i32 9, .int .i32 10, .int .i32 11, .int .i32 12, .int .i32 13, .int .i32 27, .int .i32 34, .int .i32 47, .int .i32 92, .int .i32 32, .int .i32 133, .int .i32 160, .int .i32 8232, .int .i32 8233] 21)).cell? ⟨w.heap.size, k, none⟩ = some (.int .i32 (rd toR (k : Int))) := by
  rw [blk_cell (blk_new w _)]
  have : k = 0 ∨ k = 1 ∨ k = 2 ∨ k = 3 ∨ k = 4 ∨ k = 5 ∨ k = 6 ∨ k = 7 ∨ k = 8 ∨ k = 9 ∨ k = 10 ∨ k = 11 ∨ k = 12 ∨ k = 13 ∨ k = 14 ∨ k = 15 ∨ k = 16 := by omega
  rcases this with rfl | rfl | rfl | rfl | rfl | rfl | rfl | rfl | rfl | rfl | rfl | rfl | rfl | rfl | rfl | rfl | rfl <;> rfl
theorem escapeR_calls (c : Int) (w : World) : Calls Tryd.prog 76 #[.int .u8 c] w fun e w' => e = .returned (.int .i32 ((escL c).getD (-1))) ∧ Below w.heap.size w w' := by
  go_enter Tryd.func76, Tryd.ntmps76
  go_wp2_with fail
  go_loop [5] (fun i => ∃ k : Nat, k ≤ 17 ∧ i = .int .i64 k ∧ Aside0 (∀ j < k, rd fromR (j : Int) ≠ c)) (fun i => 17 - (intOf i).toNat)
  case atStart => exact ⟨0, by omega, rfl, ⟨fun j hj => by omega⟩⟩
  case round =>
    obtain ⟨k, hk, rfl, HN⟩ := hrel
    by_cases hlt : k < 17
    · have hat := str_at ⟨#[48, 97, 98, 116, 110, 118, 102, 114, 101, 34, 47, 92, 32, 78, 95, 76, 80]⟩ k hlt
      obtain ⟨y, hy⟩ : ∃ y, (((⟨#[48, 97, 98, 116, 110, 118, 102, 114, 101, 34, 47, 92, 32, 78, 95, 76, 80]⟩ : ByteArray)[k]'hlt).toNat : Int) = y := ⟨_, rfl⟩
      rw [hy] at hat
      have hyr : rd fromR (k : Int) = y := by
        have e : bytesOf ⟨#[48, 97, 98, 116, 110, 118, 102, 114, 101, 34, 47, 92, 32, 78, 95, 76, 80]⟩ = fromR := rfl
        rw [e] at hat
        simp only [rd, Int.toNat_natCast, List.getD_eq_getElem?_getD, hat, Option.getD_some]
      have hcell := toR_cell w k hlt
      have hes := escR_some ⟨k, hlt⟩
      simp only at hes
      rw [hyr] at hes
      have HES := Aside0.mk hes
      have HYR := Aside0.mk hyr
      clear hat hes hyr
      by_cases hyc : y = c
      · subst hyc
        go_wp2
        go_ret
        exact ⟨by rw [HES.out]; rfl, below_alloc (Below.refl _ _) _⟩
      · have b : (y == c) = false := by simpa using hyc
        go_wp2
        go_round
        case rel => exact ⟨k + 1, by omega, by go_num, ⟨fun j hj => by
          by_cases e : j = k
          · subst e; rw [HYR.out]; exact hyc
          · exact HN.out j (by omega)⟩⟩
        case measure => simp [intOf]; omega
    · obtain rfl : k = 17 := by omega
      have he : escL c = none := escR_none c (fun h => by
        obtain ⟨j, hj⟩ := List.getElem?_of_mem h
        have hjl := (List.getElem?_eq_some_iff.1 hj).1
        exact HN.out j hjl (by simp only [rd, Int.toNat_natCast, List.getD_eq_getElem?_getD, hj, Option.getD_some]))
      have HE := Aside0.mk he
      clear he
      go_wp2
      go_ret
      exact ⟨by rw [HE.out]; rfl, below_alloc (Below.refl _ _) _⟩
theorem runeOk_out {r : Int} (h : runeOk r = true) : r ≤ 1114111 ∧ (r < 55296 ∨ 57343 < r) := by
  simp [runeOk] at h
  omega
theorem R8_lit (w : World) (base : Nat) (xs : List Int) (hb : base ≤ w.heap.size) (hm : xs.length ≤ 100) : (Kd.int .u8).R 5 (w.alloc (.cells (nums .u8 xs).toArray 5)) base (fun _ => True) (.slice (some ⟨w.heap.size, 0, none⟩) xs.length xs.length) xs := by
  refine Kd.R_of_own ?_ (fun _ _ => trivial)
  have h := World.ownsRow_lit (base := base) (e := 5) (size := 1) w (nums .u8 xs).toArray xs.length hb (by unfold maxLen; omega) (by simp [nums])
  simpa [nums, encs] using h
theorem m6 (x : Int) (h0 : 0 ≤ x) (h1 : x < 2147483648) : bits .or .u8 128 (bits .and .i32 x 63 % 256) = 128 + x % 64 := by
  have e : bits .and .i32 x 63 = x % 64 := bits_mask .i32 31 (by decide) wraps_i32 6 (by decide) x h0 h1
  rw [e, show x % 64 % 256 = x % 64 by omega, u8_or128 _ (by omega) (by omega)]
theorem utf8R_calls (r : Int) (w : World) (h0 : 0 ≤ r) (h : runeOk r = true) : Calls Tryd.prog 129 #[.int .i32 r] w fun e w' => ∃ v, e = .returned v ∧ (Kd.int .u8).R 5 w' w.heap.size (fun _ => True) v (Lib.encodeRuneZ r) ∧ Below w.heap.size w w' := by
  obtain ⟨h1, h2⟩ := runeOk_out h
  clear h
  by_cases c1 : r < 128
  · have HE : Aside0 (Lib.encodeRuneZ r = [r]) := ⟨Lib.encodeRuneZ_one h0 (by omega)⟩
    clear h2
    go_enter Tryd.func129, Tryd.ntmps129
    go_wp2
    go_ret
    refine ⟨_, rfl, ?_, below_alloc (Below.refl _ _) _⟩
    rw [HE.out]
    exact R8_lit w w.heap.size [r] (Nat.le_refl _) (by simp)
  · by_cases c2 : r < 2048
    · have HE : Aside0 (Lib.encodeRuneZ r = [192 + r / 64, 128 + r % 64]) := ⟨Lib.encodeRuneZ_two (by omega) (by omega)⟩
      clear h2
      go_enter Tryd.func129, Tryd.ntmps129
      go_wp2
      rw [m6 r (by omega) (by omega)]
      go_ret
      refine ⟨_, rfl, ?_, below_alloc (Below.refl _ _) _⟩
      rw [HE.out]
      exact R8_lit w w.heap.size [192 + r / 64, 128 + r % 64] (Nat.le_refl _) (by simp)
    · by_cases c3 : r < 65536
      · have HE : Aside0 (Lib.encodeRuneZ r = [224 + r / 4096, 128 + r / 64 % 64, 128 + r % 64]) := ⟨Lib.encodeRuneZ_three (by omega)⟩
        clear h2
        go_enter Tryd.func129, Tryd.ntmps129
        go_wp2
        rw [m6 (r / 64) (by omega) (by omega), m6 r (by omega) (by omega)]
        go_ret
        refine ⟨_, rfl, ?_, below_alloc (Below.refl _ _) _⟩
        rw [HE.out]
        exact R8_lit w w.heap.size [224 + r / 4096, 128 + r / 64 % 64, 128 + r % 64] (Nat.le_refl _) (by simp)
      · have HE : Aside0 (Lib.encodeRuneZ r = [240 + r / 262144, 128 + r / 4096 % 64, 128 + r / 64 % 64, 128 + r % 64]) := ⟨Lib.encodeRuneZ_four (by omega) (by omega)⟩
        clear h2
        go_enter Tryd.func129, Tryd.ntmps129
        go_wp2
        rw [m6 (r / 4096) (by omega) (by omega), m6 (r / 64) (by omega) (by omega), m6 r (by omega) (by omega)]
        go_ret
        refine ⟨_, rfl, ?_, below_alloc (Below.refl _ _) _⟩
        rw [HE.out]
        exact R8_lit w w.heap.size [240 + r / 262144, 128 + r / 4096 % 64, 128 + r / 64 % 64, 128 + r % 64] (Nat.le_refl _) (by simp)
end Go.Proofs.YtllgfccckcgekaaDoor
