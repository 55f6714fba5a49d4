/- What the document's own answers blanks, Clear, Comment, Marker compute. Conditions: slices of at most 1000000 bytes. -/
import Derived.Test.YtllgfccckcgekaaDoorTail4
namespace Go.Proofs.YtllgfccckcgekaaDoor
set_option maxRecDepth 100000
set_option maxHeartbeats 1000000
open Go.RowKit Go.Proofs.YtllgfccckcgekaaDoorW.PrintWords Go.Proofs.YtllgfccckcgekaaDoorW.PrintLast Go.Proofs.YtllgfccckcgekaaDoorW.PrintMore

theorem lead_le (xs : List Int) : lead xs ≤ xs.length := by rw [lead_nb xs]; omega
theorem lead_rd {xs : List Int} {k : Nat} (h : k < lead xs) : rd xs k = 32 := by
  unfold lead at h
  induction xs generalizing k with
  | nil => simp at h
  | cons x t ih =>
    by_cases hx : x = 32
    · cases k with
      | zero => simp [rd, hx]
      | succ k =>
        have := ih (k := k) (by simpa [hx] using h)
        simpa [rd] using this
    · simp [hx] at h
theorem lead_stop {xs : List Int} (h : lead xs < xs.length) : rd xs (lead xs) ≠ 32 ∧ (nb xs).head? = some (rd xs (lead xs)) := by
  unfold lead nb at *
  induction xs with
  | nil => simp at h
  | cons x t ih =>
    by_cases hx : x = 32
    · have := ih (by simpa [hx] using h)
      simpa [rd, hx] using this
    · simp [rd, hx]

theorem blanks_calls (A : Option Addr) (n c : Nat) (xs : List Int) (w : World) (hx : (Kd.int .u8).C w A n xs) :
    Calls Tryd.prog 69 #[.slice A n c] w fun e w' => e = .returned (.int .i64 (lead xs)) ∧ w = w' := by
  have HX := Aside0.mk hx
  have LX := Aside0.mk hx.1
  have lm := hx.2.1
  have LL := Aside0.mk (lead_le xs)
  clear hx
  go_enter Tryd.func69, Tryd.ntmps69
  go_wp2_with fail
  go_loop [3] (fun i => ∃ k : Nat, k ≤ lead xs ∧ k ≤ n ∧ i = .int .i64 k) (fun i => n - (intOf i).toNat)
  case atStart => exact ⟨0, by omega, by omega, rfl⟩
  case round =>
    obtain ⟨k, hk, hkn, rfl⟩ := hrel
    by_cases hn : k < n
    · obtain ⟨ad, rfl, hc⟩ := Kd.at_int HX.out k (by omega) (by omega)
      rw [Int.toNat_natCast] at hc
      by_cases hl : k < lead xs
      · rw [lead_rd hl] at hc
        go_wp2
        refine ⟨⟨k + 1, by omega, by omega, by go_num⟩, by simp [intOf]; omega⟩
      · obtain rfl : k = lead xs := by omega
        have hs := (lead_stop (xs := xs) (by rw [LX.out]; exact hn)).1
        have ht : (rd xs (lead xs) == 32) = false := by simpa using hs
        clear hs
        go_wp2
        go_ret
        exact ⟨rfl, rfl⟩
    · obtain rfl : k = n := by omega
      have hl : lead xs = k := by have := LL.out; rw [LX.out] at this; omega
      have HL := Aside0.mk hl
      clear hl
      go_wp2
      go_ret
      exact ⟨by rw [HL.out]; rfl, rfl⟩

theorem isClear_all {xs : List Int} (h : lead xs = xs.length) : isClear xs = true := by
  have : (nb xs).length = 0 := by have := lead_nb xs; omega
  simp [isClear, List.eq_nil_of_length_eq_zero this]
theorem isClear_at {xs : List Int} (h : lead xs < xs.length) : isClear xs = (decide (0 < lead xs) && (rd xs (lead xs) == 35)) := by
  have h2 := (lead_stop h).2
  have h3 : (nb xs).isEmpty = false := by
    cases hb : nb xs with
    | nil => rw [hb] at h2; cases h2
    | cons x t => rfl
  rw [isClear, h3, isComment, h2]
  by_cases h0 : lead xs = 0
  · simp [h0]
  · have : 0 < lead xs := by omega
    simp [h0, this]

theorem RefClear_calls (A : Option Addr) (n c : Nat) (xs : List Int) (w : World) (hx : (Kd.int .u8).C w A n xs) :
    Calls Tryd.prog 34 #[.slice A n c] w fun e w' => e = .returned (.bool (isClear xs)) ∧ w = w' := by
  have HX := Aside0.mk hx
  have LX := Aside0.mk hx.1
  have lm := hx.2.1
  have ll := lead_le xs
  rw [LX.out] at ll
  clear hx
  by_cases ha : lead xs = n
  · have HC := Aside0.mk (isClear_all (xs := xs) (by rw [LX.out]; exact ha))
    have t1 : ((lead xs : Int) == (n : Int)) = true := by simp [ha]
    clear ha
    go_enter Tryd.func34, Tryd.ntmps34
    go_wp2_with (go_at_call 69; refine (blanks_calls A n c xs w HX.out).mono ?_; rintro e w' ⟨rfl, rfl⟩)
    go_ret
    exact ⟨by rw [HC.out]; rfl, rfl⟩
  · have hlt : lead xs < n := by omega
    have HC := Aside0.mk (isClear_at (xs := xs) (by rw [LX.out]; exact hlt))
    have t1 : ((lead xs : Int) == (n : Int)) = false := by simp; omega
    clear ha
    obtain ⟨ad, rfl, hc⟩ := Kd.at_int HX.out (lead xs) (by omega) (by omega)
    rw [Int.toNat_natCast] at hc
    by_cases h0 : 0 < lead xs
    · go_enter Tryd.func34, Tryd.ntmps34
      go_wp2_with (go_at_call 69; refine (blanks_calls _ n c xs w HX.out).mono ?_; rintro e w' ⟨rfl, rfl⟩)
      go_ret
      exact ⟨by rw [HC.out]; simp [h0], rfl⟩
    · go_enter Tryd.func34, Tryd.ntmps34
      go_wp2_with (go_at_call 69; refine (blanks_calls _ n c xs w HX.out).mono ?_; rintro e w' ⟨rfl, rfl⟩)
      go_ret
      exact ⟨by rw [HC.out]; simp [h0], rfl⟩

theorem comment_all {xs : List Int} (h : lead xs = xs.length) : isComment xs = false := by
  have : (nb xs).length = 0 := by have := lead_nb xs; omega
  simp [isComment, List.eq_nil_of_length_eq_zero this]
theorem comment_clear {xs : List Int} (h : lead xs ≠ xs.length) : isComment xs = isClear xs := by
  have : (nb xs).isEmpty = false := by
    cases hb : nb xs with
    | nil => have := lead_nb xs; rw [hb] at this; simp at this; omega
    | cons x t => rfl
  simp [isClear, this]

theorem RefComment_calls (A : Option Addr) (n c : Nat) (xs : List Int) (w : World) (hx : (Kd.int .u8).C w A n xs) :
    Calls Tryd.prog 32 #[.slice A n c] w fun e w' => e = .returned (.tuple #[.int .i64 (commentF xs), .bool (isComment xs)]) ∧ w = w' := by
  have HX := Aside0.mk hx
  have LX := Aside0.mk hx.1
  have lm := hx.2.1
  clear hx
  by_cases ha : lead xs = n
  · have HC := Aside0.mk (isClear_all (xs := xs) (by rw [LX.out]; exact ha))
    have HD := Aside0.mk (comment_all (xs := xs) (by rw [LX.out]; exact ha))
    have t1 : ((lead xs : Int) == (n : Int)) = true := by simp [ha]
    clear ha
    go_enter Tryd.func32, Tryd.ntmps32
    go_wp2_with (first | (go_at_call 69; refine (blanks_calls _ n c xs w HX.out).mono ?_; rintro e w' ⟨rfl, rfl⟩) | (go_at_call 34; refine (RefClear_calls _ n c xs w HX.out).mono ?_; rw [HC.out]; rintro e w' ⟨rfl, rfl⟩))
    go_ret2
    exact ⟨by simp [commentF, HD.out], rfl⟩
  · have HD := Aside0.mk (comment_clear (xs := xs) (by rw [LX.out]; exact ha))
    have t1 : ((lead xs : Int) == (n : Int)) = false := by simp; omega
    clear ha
    cases hcl : isClear xs with
    | true =>
      have HC := Aside0.mk hcl
      clear hcl
      go_enter Tryd.func32, Tryd.ntmps32
      go_wp2_with (first | (go_at_call 69; refine (blanks_calls _ n c xs w HX.out).mono ?_; rintro e w' ⟨rfl, rfl⟩) | (go_at_call 34; refine (RefClear_calls _ n c xs w HX.out).mono ?_; rw [HC.out]; rintro e w' ⟨rfl, rfl⟩))
      go_ret2
      exact ⟨by simp [commentF, HD.out, HC.out], rfl⟩
    | false =>
      have HC := Aside0.mk hcl
      clear hcl
      go_enter Tryd.func32, Tryd.ntmps32
      go_wp2_with (first | (go_at_call 69; refine (blanks_calls _ n c xs w HX.out).mono ?_; rintro e w' ⟨rfl, rfl⟩) | (go_at_call 34; refine (RefClear_calls _ n c xs w HX.out).mono ?_; rw [HC.out]; rintro e w' ⟨rfl, rfl⟩))
      go_ret2
      exact ⟨by simp [commentF, HD.out, HC.out], rfl⟩

/-- 'b[3:]' of a slice that is read, without a case on the capacity. -/
theorem cut3 {w : World} {A : Option Addr} {n c : Nat} {xs : List Int} (h : (Kd.int .u8).C w A n xs) (hm : 3 ≤ n) (hc : n ≤ c) :
    ∃ A', (∀ W : World, (Instr.slice 36 (.slice A n c) (some (.int .i64 3)) none none).run Tryd.prog W = .ok (.slice A' (n - 3) (c - 3)) W) ∧ (Kd.int .u8).C w A' (n - 3) (xs.drop 3) := by
  have h1 := cut5_from A n c 3 (by omega) (by omega)
  refine ⟨_, fun W => (h1 W).trans rfl, ?_⟩
  exact C_cut h hm hc
theorem take3 {w : World} {A : Option Addr} {n : Nat} (c : Nat) {xs : List Int} (h : (Kd.int .u8).C w A n xs) (hm : 3 ≤ n) :
    ∀ W : World, Below w.heap.size w W → (convert 36 9 (.slice A 3 c)).run Tryd.prog W = .ok (.string (strOfNums (xs.take 3))) W := by
  intro W hb
  obtain rfl : xs.length = n := h.1
  have h3 := Kd.C_take (m := 3) (Kd.C_below h hb) hm
  have e : (xs.take 3).length = 3 := by rw [List.length_take]; omega
  rw [e] at h3
  exact Kd.C_string Tryd.underlying36 Tryd.underlying5 Tryd.underlying9 h3
theorem pre3 {xs ys : List Int} (hl : ys.length = 3) (h : hasPre xs ys = true) : xs.take 3 = ys := by
  rw [hasPre_take, hl] at h
  exact of_decide_eq_true h

theorem at3 {k : IntKind} {w : World} {ad : Addr} {n : Nat} {xs : List Int} (h : (Kd.int k).C w (some ad) n xs) (hn : 3 < n) : w.cell? ⟨ad.block, ad.off + 3, none⟩ = some (.int k (rd xs 3)) := by
  obtain ⟨ad', e, hc⟩ := Kd.at_int h 3 (by omega) (by omega)
  cases e
  simpa [Addr.add] using hc
theorem pre_short {xs : List Int} {a b c : Int} (h : xs.length < 3) : hasPre xs [a, b, c] = false := by
  rw [hasPre_take]
  simp only [decide_eq_false_iff_not]
  intro h2
  have := congrArg List.length h2
  simp only [List.length_take, List.length_cons, List.length_nil] at this
  omega
theorem neq3 {xs ys : List Int} {l : List UInt8} (bx : Byt xs) (hl : ys.length = 3) (by_ : Byt ys) (hs : (strOfNums ys).toList = l) (h : hasPre xs ys = false) : ((strOfNums (xs.take 3)).toList == l) = false := by
  rw [← hs]
  rw [strOfNums_beq (bx.take 3) by_]
  rw [hasPre_take, hl] at h
  exact h

theorem RefMarker_calls (A : Option Addr) (n c : Nat) (xs : List Int) (w : World) (hx : (Kd.int .u8).C w A n xs) (bx : Byt xs) (hc : n ≤ c) :
    Calls Tryd.prog 36 #[.slice A n c] w fun e w' => e = .returned (.int .i64 (markF xs)) ∧ w = w' := by
  have HX := Aside0.mk hx
  have LX := Aside0.mk hx.1
  have lm := hx.2.1
  clear hx
  by_cases h3 : 3 ≤ n
  · obtain ⟨A', hcut, hC'⟩ := cut3 HX.out h3 hc
    have htk := take3 c HX.out h3 w (Below.refl _ _)
    have HC' := Aside0.mk hC'
    clear hC'
    obtain ⟨ad, rfl, hc0⟩ := C_head HX.out (by omega)
    by_cases hp : hasPre xs [45, 45, 45] = true
    · skip
      have e3 : strOfNums (xs.take 3) = ⟨#[45, 45, 45]⟩ := by rw [pre3 rfl hp]; rfl
      rw [e3] at htk
      clear e3
      have h0 : rd xs 0 = 45 := by
        have := pre3 rfl hp
        have h1 : (xs.take 3)[0]? = some 45 := by rw [this]; rfl
        rw [List.getElem?_take] at h1
        simp only [Nat.zero_lt_succ, if_true] at h1
        simp [rd, List.getD_eq_getElem?_getD, h1]
      rw [h0] at hc0
      clear h0
      have HP := Aside0.mk (mark_1 hp)
      clear hp
      cases hcr : isClear (xs.drop 3) with
      | true =>
        have HCR := Aside0.mk hcr
        clear hcr
        go_enter Tryd.func36, Tryd.ntmps36
        go_wp2_with (go_at_call 34; refine (RefClear_calls A' (n - 3) (c - 3) (xs.drop 3) w HC'.out).mono ?_; rw [HCR.out]; rintro e w' ⟨rfl, rfl⟩)
        go_ret
        exact ⟨by rw [HP.out, tailM_clear HCR.out]; rfl, rfl⟩
      | false =>
        have HCR := Aside0.mk hcr
        have hpos := notClear_pos hcr
        clear hcr
        rw [List.length_drop, LX.out] at hpos
        have hr3 : rd (xs.drop 3) 0 = rd xs 3 := by simp [rd, List.getD_eq_getElem?_getD]
        have HR3 := Aside0.mk hr3
        clear hr3
        have hc3 := at3 HX.out (by omega)
        have hn3 : 3 < n := by omega
        by_cases h32 : (rd xs 3 == 32) = true
        · go_enter Tryd.func36, Tryd.ntmps36
          go_wp2_with (go_at_call 34; refine (RefClear_calls A' (n - 3) (c - 3) (xs.drop 3) w HC'.out).mono ?_; rw [HCR.out]; rintro e w' ⟨rfl, rfl⟩)
          go_ret
          exact ⟨by rw [HP.out, tailM_3 HCR.out (.inl (by rw [HR3.out]; exact h32))]; rfl, rfl⟩
        · have h32 := Bool.eq_false_iff.2 h32
          by_cases h9 : (rd xs 3 == 9) = true
          · go_enter Tryd.func36, Tryd.ntmps36
            go_wp2_with (go_at_call 34; refine (RefClear_calls A' (n - 3) (c - 3) (xs.drop 3) w HC'.out).mono ?_; rw [HCR.out]; rintro e w' ⟨rfl, rfl⟩)
            go_ret
            exact ⟨by rw [HP.out, tailM_3 HCR.out (.inr (by rw [HR3.out]; exact h9))]; rfl, rfl⟩
          · have h9 := Bool.eq_false_iff.2 h9
            go_enter Tryd.func36, Tryd.ntmps36
            go_wp2_with (go_at_call 34; refine (RefClear_calls A' (n - 3) (c - 3) (xs.drop 3) w HC'.out).mono ?_; rw [HCR.out]; rintro e w' ⟨rfl, rfl⟩)
            go_ret
            exact ⟨by rw [HP.out, tailM_0 HCR.out (by rw [HR3.out]; exact h32) (by rw [HR3.out]; exact h9)]; rfl, rfl⟩
    · by_cases hq : hasPre xs [46, 46, 46] = true
      · have hp := hq
        clear hq
        have e3 : strOfNums (xs.take 3) = ⟨#[46, 46, 46]⟩ := by rw [pre3 rfl hp]; rfl
        rw [e3] at htk
        clear e3
        have h0 : rd xs 0 = 46 := by
          have := pre3 rfl hp
          have h1 : (xs.take 3)[0]? = some 46 := by rw [this]; rfl
          rw [List.getElem?_take] at h1
          simp only [Nat.zero_lt_succ, if_true] at h1
          simp [rd, List.getD_eq_getElem?_getD, h1]
        rw [h0] at hc0
        clear h0
        have HP := Aside0.mk (mark_2 hp)
        clear hp
        cases hcr : isClear (xs.drop 3) with
        | true =>
          have HCR := Aside0.mk hcr
          clear hcr
          go_enter Tryd.func36, Tryd.ntmps36
          go_wp2_with (go_at_call 34; refine (RefClear_calls A' (n - 3) (c - 3) (xs.drop 3) w HC'.out).mono ?_; rw [HCR.out]; rintro e w' ⟨rfl, rfl⟩)
          go_ret
          exact ⟨by rw [HP.out, tailM_clear HCR.out]; rfl, rfl⟩
        | false =>
          have HCR := Aside0.mk hcr
          have hpos := notClear_pos hcr
          clear hcr
          rw [List.length_drop, LX.out] at hpos
          have hr3 : rd (xs.drop 3) 0 = rd xs 3 := by simp [rd, List.getD_eq_getElem?_getD]
          have HR3 := Aside0.mk hr3
          clear hr3
          have hc3 := at3 HX.out (by omega)
          have hn3 : 3 < n := by omega
          by_cases h32 : (rd xs 3 == 32) = true
          · go_enter Tryd.func36, Tryd.ntmps36
            go_wp2_with (go_at_call 34; refine (RefClear_calls A' (n - 3) (c - 3) (xs.drop 3) w HC'.out).mono ?_; rw [HCR.out]; rintro e w' ⟨rfl, rfl⟩)
            go_ret
            exact ⟨by rw [HP.out, tailM_3 HCR.out (.inl (by rw [HR3.out]; exact h32))]; rfl, rfl⟩
          · have h32 := Bool.eq_false_iff.2 h32
            by_cases h9 : (rd xs 3 == 9) = true
            · go_enter Tryd.func36, Tryd.ntmps36
              go_wp2_with (go_at_call 34; refine (RefClear_calls A' (n - 3) (c - 3) (xs.drop 3) w HC'.out).mono ?_; rw [HCR.out]; rintro e w' ⟨rfl, rfl⟩)
              go_ret
              exact ⟨by rw [HP.out, tailM_3 HCR.out (.inr (by rw [HR3.out]; exact h9))]; rfl, rfl⟩
            · have h9 := Bool.eq_false_iff.2 h9
              go_enter Tryd.func36, Tryd.ntmps36
              go_wp2_with (go_at_call 34; refine (RefClear_calls A' (n - 3) (c - 3) (xs.drop 3) w HC'.out).mono ?_; rw [HCR.out]; rintro e w' ⟨rfl, rfl⟩)
              go_ret
              exact ⟨by rw [HP.out, tailM_0 HCR.out (by rw [HR3.out]; exact h32) (by rw [HR3.out]; exact h9)]; rfl, rfl⟩
      · have hm : markF xs = 0 := by simp [markF, hp, hq]
        have HM := Aside0.mk hm
        have b1 := neq3 (ys := [45, 45, 45]) (l := [45, 45, 45]) bx rfl (by intro x hx; simp at hx; omega) (by rw [Lib.strOfNums_toList]; rfl) (Bool.eq_false_iff.2 hp)
        have b2 := neq3 (ys := [46, 46, 46]) (l := [46, 46, 46]) bx rfl (by intro x hx; simp at hx; omega) (by rw [Lib.strOfNums_toList]; rfl) (Bool.eq_false_iff.2 hq)
        clear hp hq hm
        generalize strOfNums (xs.take 3) = s3 at *
        go_enter Tryd.func36, Tryd.ntmps36
        go_wp2_with fail
        go_ret
        exact ⟨by rw [HM.out]; rfl, rfl⟩
  · have hm : markF xs = 0 := by
      have h1 : hasPre xs [45, 45, 45] = false := pre_short (by rw [LX.out]; exact Nat.lt_of_not_le h3)
      have h2 : hasPre xs [46, 46, 46] = false := pre_short (by rw [LX.out]; exact Nat.lt_of_not_le h3)
      simp [markF, h1, h2]
    have HM := Aside0.mk hm
    clear hm
    go_enter Tryd.func36, Tryd.ntmps36
    go_wp2_with fail
    go_ret
    exact ⟨by rw [HM.out]; rfl, rfl⟩
end Go.Proofs.YtllgfccckcgekaaDoor
