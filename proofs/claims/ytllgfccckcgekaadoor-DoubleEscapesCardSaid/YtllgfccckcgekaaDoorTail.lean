/- What the functions of the package tail compute, and Lend. Conditions: slices of at most 1000000 bytes. -/
import Derived.Test.YtllgfccckcgekaaDoorM
import Derived.Laws.CopyOwn
import Derived.Outline
import Derived.Lib.SliceRun
namespace Go.Proofs.YtllgfccckcgekaaDoor
set_option maxRecDepth 100000
set_option maxHeartbeats 1000000
open Go.RowKit Go.Proofs.YtllgfccckcgekaaDoorW.PrintWords Go.Proofs.YtllgfccckcgekaaDoorW.PrintLast Go.Proofs.YtllgfccckcgekaaDoorW.PrintMore
theorem Lend_calls (A : Option Addr) (n c : Nat) (xs : List Int) (w : World) (hr : (Kd.int .u8).C w A n xs) (hn : n ≤ 1000000) :
    Calls Tryd.prog 25 #[.slice A n c] w fun e w' => e = .returned (.slice (some ⟨w.heap.size, 0, none⟩) n (n + 3)) ∧ w'.heap[w.heap.size]? = some (.cells (nums .u8 (xs ++ [85, 85, 85])).toArray 5 (0, 0)) ∧ Below w.heap.size w w' := by
  obtain ⟨i0, hi0, hz0, hz1, hz2⟩ := info_parts info5
  have hmk : ∀ W : World, (Instr.makeSlice 36 (.int .i64 (n : Int)) (.int .i64 ((n : Int) + 3))).run Tryd.prog W = .ok (.slice (some ⟨W.heap.size, 0, none⟩) n (n + 3)) (W.alloc (.cells (zer (n + 3)).toArray 5)) := by
    intro W
    have h := Go.run_make (P := Tryd.prog) W 36 5 i0 (.int .u8 0) Tryd.underlying36 hi0 hz0 .i64 .i64 (n : Int) ((n : Int) + 3) (by omega) (by omega) (by rw [hz2]; omega) (by omega)
    rw [h, hz1, Nat.mul_one, made_zer]
    rfl
  have HR := Aside0.mk hr
  have HL := Aside0.mk (C_cells hr).1
  clear hr
  go_enter Tryd.func25, Tryd.ntmps25
  go_wp2_with (with_reducible refine wpList_copy_splice (o := ⟨some 14, _, _, _, _, _⟩) rfl (.tmp 12) (.tmp 13) 36 36 rfl 5 Tryd.underlying36 size5 _ _ _ _ _ _ rfl rfl w.heap.size 0 (zer (n + 3)) 5 ?cg (nums .u8 xs) ?cn ?cp ?cf (nums_one _ _) w.heap.size w ?cb (Nat.le_refl _) ?_)
  case cg => exact blk_new w _
  case cn => simp [nums, HL.out]
  case cp =>
    intro h
    simp [nums, HL.out] at h
    obtain ⟨ad, e, hc⟩ := (C_cells HR.out).2 h
    refine ⟨ad, e, fun j v hv => ?_⟩
    rw [World.cell?_alloc_lt w _ _ (World.block_lt_of_cell? w _ (hc j v hv))]
    exact hc j v hv
  case cf => simp [nums, zer, HL.out]
  case cb => exact below_alloc (Below.refl _ _) _
  intro w1 hg1 hb1
  have HG := Aside0.mk (show w1.heap[w.heap.size]? = some (.cells (nums .u8 (xs ++ (List.replicate 0 85 ++ List.replicate (3 - 0) 0))).toArray 5 (0, 0)) by
    have := hg1.out
    rw [← HL.out, splice_zer] at this
    simpa using this)
  have HB := Aside0.mk hb1
  clear hg1 hb1
  go_wp2_with fail
  go_loopw [5] (fun i wr => ∃ k : Nat, k ≤ 3 ∧ i = .int .i64 ((n : Int) + k) ∧ Aside0 (wr.heap[w.heap.size]? = some (.cells (nums .u8 (xs ++ (List.replicate k 85 ++ List.replicate (3 - k) 0))).toArray 5 (0, 0))) ∧ Aside0 (Below w.heap.size w wr)) (fun i _ => n + 3 - (intOf i).toNat)
  case atStart => exact ⟨0, by omega, by simp, HG, HB⟩
  case round =>
    obtain ⟨k, hk, rfl, HG', HB'⟩ := hrel
    by_cases hlt : k < 3
    · have hc : wr.cell? ⟨w.heap.size, n + k, none⟩ = some (.int .u8 0) := by
        rw [blk_cell HG'.out, ← HL.out]
        have : k = 0 ∨ k = 1 ∨ k = 2 := by omega
        rcases this with rfl | rfl | rfl <;> simp [nums, List.replicate_succ]
      have hf := blk_frozen HG'.out (n + k)
      go_wp2
      go_roundw
      case rel =>
        refine ⟨k + 1, by omega, by go_num, Aside0.mk ?_, Aside0.mk ?_⟩
        · rw [blk_set HG'.out, ← HL.out, set_85 xs k hlt]
        · exact HB'.out.setCell (Nat.le_refl _) _
      case measure => simp [intOf]; omega
    · obtain rfl : k = 3 := by omega
      go_wp2
      go_ret
      exact ⟨rfl, HG'.out, HB'.out⟩
theorem trimLeftByte_calls (A : Option Addr) (n c : Nat) (xs : List Int) (b : Int) (w : World) (hr : (Kd.int .u8).C w A n xs) (hc : n ≤ c) :
    Calls Tryd.prog 104 #[.slice A n c, .int .u8 b] w fun e w' => ∃ A' c', e = .returned (.slice A' (xs.dropWhile (· == b)).length c') ∧ (xs.dropWhile (· == b)).length ≤ c' ∧ (Kd.int .u8).C w A' (xs.dropWhile (· == b)).length (xs.dropWhile (· == b)) ∧ (xs.dropWhile (· == b) = [] → A' = none) ∧ w = w' := by
  obtain rfl : xs.length = n := hr.1
  have HR := Aside0.mk hr
  have HM := Aside0.mk hc
  clear hr hc
  go_enter Tryd.func104, Tryd.ntmps104
  go_wp2_with fail
  go_loop [0] (fun s => ∃ (A1 : Option Addr) (c1 : Nat) (ys : List Int), s = .slice A1 ys.length c1 ∧ Aside0 (ys.length ≤ c1) ∧ Aside0 ((Kd.int .u8).C w A1 ys.length ys) ∧ Aside0 (xs.dropWhile (· == b) = ys.dropWhile (· == b))) (fun s => match s with | .slice _ n _ => n | _ => 0)
  case atStart => exact ⟨A, c, xs, rfl, HM, HR, Aside0.mk rfl⟩
  case round =>
    obtain ⟨A1, c1, ys, rfl, hc1, hr1, he1⟩ := hrel
    cases ys with
    | nil =>
      go_wp2
      go_ret
      refine ⟨none, 0, ?_⟩
      rw [he1.out]
      exact ⟨rfl, Nat.le_refl _, Kd.C_nil _ _, fun _ => rfl, rfl⟩
    | cons y t =>
      obtain ⟨ad, rfl, hcell⟩ := Kd.at_int hr1.out 0 (by omega) (by simp)
      have hcell0 : w.cell? ad = some (.int .u8 y) := by simpa [rd, Addr.add] using hcell
      clear hcell
      by_cases hy : y = b
      · subst hy
        have hne := hc1.out
        go_wp2
        refine ⟨⟨_, _, t, rfl, Aside0.mk ?_, Aside0.mk ?_, Aside0.mk ?_⟩, ?_⟩
        · simp at hne; omega
        · have := Kd.C_drop (m := 1) hr1.out (by simp) hc1.out
          simpa [Addr.add, Kd.int, Kd.scalar] using this
        · rw [he1.out]; simp
        · simp
      · have hy' : (y == b) = false := by simpa using hy
        have := hc1.out
        go_wp2
        go_ret
        have e : xs.dropWhile (· == b) = y :: t := by rw [he1.out]; simp [hy']
        refine ⟨some ad, c1, ?_⟩
        rw [e]
        exact ⟨rfl, hc1.out, hr1.out, fun h => by simp at h, rfl⟩
def sp : ByteArray := ⟨#[32]⟩
theorem sp_def : (⟨#[32]⟩ : ByteArray) = sp := rfl
def nb (xs : List Int) : List Int := xs.dropWhile (· == 32)

theorem TrimLeft_calls (A : Option Addr) (n c : Nat) (xs : List Int) (w : World) (hr : (Kd.int .u8).C w A n xs) (hc : n ≤ c) :
    Calls Tryd.prog 68 #[.slice A n c, .string ⟨#[32]⟩] w fun e w' => ∃ A' c', e = .returned (.slice A' (nb xs).length c') ∧ (nb xs).length ≤ c' ∧ (Kd.int .u8).C w A' (nb xs).length (nb xs) ∧ (nb xs = [] → A' = none) ∧ w = w' := by
  have HR := Aside0.mk hr
  have HM := Aside0.mk hc
  clear hr hc
  by_cases h0 : n = 0
  · subst h0
    obtain rfl : xs = [] := List.eq_nil_of_length_eq_zero HR.out.1
    go_enter Tryd.func68, Tryd.ntmps68
    go_wp2
    go_ret
    exact ⟨none, 0, rfl, Nat.le_refl _, Kd.C_nil _ _, fun _ => rfl, rfl⟩
  · have h1 : ((n : Int) == 0) = false := by simpa using h0
    go_enter Tryd.func68, Tryd.ntmps68
    have kb : ((⟨#[32]⟩ : ByteArray)[0]'(by decide)).toNat = 32 := rfl
    go_wp2_with (go_at_call 104; refine (trimLeftByte_calls A n c xs 32 w HR.out HM.out).mono ?_; rintro e w' ⟨A', c', rfl, h1, h2, h3, rfl⟩)
    go_ret
    exact ⟨A', c', rfl, h1, h2, h3, rfl⟩
theorem clone_run (a : Addr) (n c : Nat) (xs : List Int) (w : World) (hr : (Kd.int .u8).C w (some a) n xs) (hn : n ≤ 1000000) :
    ∃ v' w', (Builtin.append_ #[36, 36] 36 #[.slice (some ⟨w.heap.size, 0, none⟩) 0 0, .slice (some a) n c]).run Tryd.prog (w.alloc (.cells #[] 5)) = .ok v' w' ∧ Row8 w' w.heap.size v' xs ∧ Below w.heap.size w w' := by
  obtain ⟨i0, hi0, hz0, hz1, hz2⟩ := info_parts info5
  obtain ⟨hl, hc⟩ := C_cells hr
  rcases Nat.eq_zero_or_pos n with h0 | h0
  · subst h0
    obtain rfl : xs = [] := List.eq_nil_of_length_eq_zero hl
    have hrun : (Builtin.append_ #[36, 36] 36 #[.slice (some ⟨w.heap.size, 0, none⟩) 0 0, .slice (some a) 0 c]).run Tryd.prog (w.alloc (.cells #[] 5)) = .ok (.slice (some ⟨w.heap.size, 0, none⟩) 0 0) (w.alloc (.cells #[] 5)) := by
      have hl : ∀ (x : Addr) (W : World), (loadCells x 0).run Tryd.prog W = .ok #[] W := fun x W => by simpa using run_loadCells_list (P := Tryd.prog) W x [] (by simp)
      simp [Builtin.append_, run_underlying Tryd.underlying36, sizeOf, typeInfo, hi0, Builtin.lenOf, Builtin.firstCells, hl, storeCells]
    exact ⟨_, _, hrun, .inr ⟨w.heap.size, [], rfl, Nat.le_refl _, Nat.zero_le _, blk_new w _⟩, below_alloc (Below.refl _ _) _⟩
  · obtain ⟨ad, e, hcell⟩ := hc h0
    cases e
    have hge := grownCap_ge (w.alloc (.cells #[] 5)) n 0 5
    have hle := grownCap_le_maxLen (w.alloc (.cells #[] 5)) n 0 5 (by simp only [maxLen]; omega)
    have hrun := run_append_grow (P := Tryd.prog) (w := w.alloc (.cells #[] 5)) 36 36 5 i0 (.int .u8 0) Tryd.underlying36 hi0 hz0 ⟨w.heap.size, 0, none⟩ 0 0 [] (by simp) (by simp) a n c (nums .u8 xs) (by rw [hz1, nums_length]; omega)
      (fun j v hv => by rw [World.cell?_alloc_lt w _ _ (World.block_lt_of_cell? w _ (hcell j v hv))]; exact hcell j v hv) (by omega) (by omega) (growslice_fits (by omega) (by rw [hz2]; omega))
    refine ⟨_, _, hrun, .inr ⟨(w.alloc (.cells #[] 5)).heap.size, List.replicate (grownCap (w.alloc (.cells #[] 5)) n 0 5 - n) 0, ?_, ?_, ?_, ?_⟩, ?_⟩
    · simp only [Nat.zero_add, List.length_replicate, hl]
      congr 1
      omega
    · simp
    · simp only [List.length_replicate, hl]; omega
    · show ((w.alloc (.cells #[] 5)).drew.alloc _).heap[(w.alloc (.cells #[] 5)).drew.heap.size]? = _
      rw [heap_alloc_new]
      simp only [Nat.zero_add]
      congr 2
      apply Array.ext'
      rw [zeroCells_zer]
      simp [nums, zer]
    · exact ((below_alloc (Below.refl _ _) _).drew).alloc (by simp) _
theorem Clone_calls (A : Option Addr) (n c : Nat) (xs : List Int) (w : World) (hr : (Kd.int .u8).C w A n xs) (hn : n ≤ 1000000) :
    Calls Tryd.prog 67 #[.slice A n c] w fun e w' => ∃ v, e = .returned v ∧ Row8 w' w.heap.size v xs ∧ Below w.heap.size w w' := by
  have HR := Aside0.mk hr
  clear hr
  have he := fun W => Lib.run_eql_slice_nil (P := Tryd.prog) W 36 5 A n c 0 0 Tryd.underlying36
  cases A with
  | none =>
    obtain rfl : n = 0 := by
      rcases Nat.eq_zero_or_pos n with h | h
      · exact h
      · obtain ⟨_, h, _⟩ := HR.out.2.2 h
        cases h
    obtain rfl : xs = [] := List.eq_nil_of_length_eq_zero HR.out.1
    go_enter Tryd.func67, Tryd.ntmps67
    go_wp2
    go_ret
    exact ⟨_, rfl, Row8.nil _ _, Below.refl _ _⟩
  | some a =>
    obtain ⟨v', w', hrun, h1, h2⟩ := clone_run a n c xs w HR.out hn
    have H1 := Aside0.mk h1
    have H2 := Aside0.mk h2
    clear h1 h2
    go_enter Tryd.func67, Tryd.ntmps67
    go_wp2_with (at_builtin; refine wpList_append_run (o := ⟨some 7, _, _, _, _, _⟩) rfl (.tmp 5) (.tmp 6) 36 36 rfl hrun ?_)
    go_ret
    exact ⟨v', rfl, H1.out, H2.out⟩

theorem Rest_calls (A : Option Addr) (n c : Nat) (xs : List Int) (w : World) (hr : (Kd.int .u8).C w A n xs) (hc : n ≤ c) (hn : n ≤ 1000000) :
    Calls Tryd.prog 26 #[.slice A n c] w fun e w' => ∃ A' c', e = .returned (.slice A' (nb xs).length c') ∧ Row8 w' w.heap.size (.slice A' (nb xs).length c') (nb xs) ∧ Below w.heap.size w w' := by
  have HR := Aside0.mk hr
  have HM := Aside0.mk hc
  have hl : (nb xs).length ≤ 1000000 := Nat.le_trans (List.dropWhile_sublist _).length_le (by rw [hr.1]; exact hn)
  clear hr hc
  go_enter Tryd.func26, Tryd.ntmps26
  go_wp2_with (first | (go_at_call 68; refine (TrimLeft_calls A n c xs w HR.out HM.out).mono ?_; rintro e w' ⟨A', c', rfl, h1, h2, h3, rfl⟩) | (go_at_call 67; refine (Clone_calls A' _ c' (nb xs) w h2 (by omega)).mono ?_; rintro e w' ⟨v, rfl, h4, h5⟩))
  go_ret
  obtain ⟨A1, c1, rfl, _⟩ := h4.form
  exact ⟨A1, c1, rfl, h4, h5⟩

def lead (xs : List Int) : Nat := (xs.takeWhile (· == 32)).length
theorem lead_nb (xs : List Int) : xs.length = lead xs + (nb xs).length := by
  unfold lead nb
  rw [← List.length_append, List.takeWhile_append_dropWhile]
theorem lead_at (xs : List Int) : xs.drop (lead xs) = nb xs := by
  unfold lead nb
  induction xs with
  | nil => rfl
  | cons x t ih =>
    by_cases h : x = 32 <;> simp [h]
    exact ih
def isComment (xs : List Int) : Bool := lead xs != 0 && (nb xs).head? == some 35
def commentF (xs : List Int) : Int := if isComment xs then lead xs else 0

theorem Comment_calls (A : Option Addr) (n c : Nat) (xs : List Int) (w : World) (hr : (Kd.int .u8).C w A n xs) (hc : n ≤ c) (hn : n ≤ 1000000) :
    Calls Tryd.prog 31 #[.slice A n c] w fun e w' => e = .returned (.tuple #[.int .i64 (commentF xs), .bool (isComment xs)]) ∧ Below w.heap.size w w' := by
  have HR := Aside0.mk hr
  have HM := Aside0.mk hc
  have HN := Aside0.mk hn
  have HL := Aside0.mk (lead_nb xs)
  have hle : (nb xs).length ≤ n := by rw [← hr.1]; have := lead_nb xs; omega
  have hnn : Aside0 (xs.length = n) := ⟨hr.1⟩
  clear hr hc
  have post : ∀ w', Below w.heap.size w w' → isComment xs = false → Ending.returned (.tuple #[.int .i64 0, .bool false]) = Ending.returned (.tuple #[.int .i64 (commentF xs), .bool (isComment xs)]) ∧ Below w.heap.size w w' := by
    intro w' hb h
    simp [commentF, h, hb]
  have P := Aside0.mk post
  clear post
  by_cases h0 : n = (nb xs).length
  · have t1 : ((n : Int) - ((nb xs).length : Int) == 0) = true := by simp; omega
    have hz : isComment xs = false := by
      have : lead xs = 0 := by have := HL.out; have := hnn.out; omega
      simp [isComment, this]
    have HZ := Aside0.mk hz
    clear hz h0
    go_enter Tryd.func31, Tryd.ntmps31
    go_wp2_with (go_at_call 26; refine (Rest_calls A _ c xs w HR.out HM.out HN.out).mono ?_; rintro e w' ⟨A', c', rfl, h4, h5⟩)
    go_ret2
    exact P.out _ h5 HZ.out
  · have t1 : ((n : Int) - ((nb xs).length : Int) == 0) = false := by simp; omega
    by_cases hm : (nb xs).length = 0
    · have t2 : ((n : Int) - ((nb xs).length : Int) == (n : Int)) = true := by simp; omega
      have hz : isComment xs = false := by
        have : nb xs = [] := List.eq_nil_of_length_eq_zero hm
        simp [isComment, this]
      have HZ := Aside0.mk hz
      clear hz h0 hm
      go_enter Tryd.func31, Tryd.ntmps31
      go_wp2_with (go_at_call 26; refine (Rest_calls A _ c xs w HR.out HM.out HN.out).mono ?_; rintro e w' ⟨A', c', rfl, h4, h5⟩)
      go_ret2
      exact P.out _ h5 HZ.out
    · have t2 : ((n : Int) - ((nb xs).length : Int) == (n : Int)) = false := by simp; omega
      have hpos : 0 < n := by omega
      obtain ⟨ad, rfl, hcell⟩ := Kd.at_int HR.out ((n : Int) - ((nb xs).length : Int)) (by omega) (by omega)
      have hlead : lead xs = n - (nb xs).length := by have := HL.out; have := hnn.out; omega
      have hl0 : lead xs ≠ 0 := by omega
      have hd := lead_at xs
      rw [show ((n : Int) - ((nb xs).length : Int)).toNat = n - (nb xs).length by omega] at hcell
      have hlt : (n : Int) - ((nb xs).length : Int) < n := by omega
      have hge : 0 ≤ (n : Int) - ((nb xs).length : Int) := by omega
      obtain ⟨y, t, hyt⟩ : ∃ y t, nb xs = y :: t := List.exists_cons_of_length_pos (by omega)
      have hy : rd xs ((n : Int) - ((nb xs).length : Int)) = y := by
        unfold rd
        rw [show ((n : Int) - ((nb xs).length : Int)).toNat = lead xs by omega]
        have : (xs.drop (lead xs))[0]? = some y := by rw [hd, hyt]; rfl
        rw [List.getElem?_drop] at this
        simp [List.getD, this] at this ⊢
      rw [hy] at hcell
      have hval : (lead xs : Int) = (n : Int) - ((nb xs).length : Int) := by omega
      have HV := Aside0.mk hval
      have HY := Aside0.mk hyt
      have HL0 := Aside0.mk hl0
      clear h0 hm hy hd hlead hl0 hval hyt
      by_cases h35 : y = 35
      · subst h35
        have hz : isComment xs = true := by simp [isComment, HL0.out, HY.out]
        have HZ := Aside0.mk hz
        clear hz
        go_enter Tryd.func31, Tryd.ntmps31
        go_wp2_with (go_at_call 26; refine (Rest_calls _ _ c xs w HR.out HM.out HN.out).mono ?_; rintro e w' ⟨A', c', rfl, h4, h5⟩; have hcc := pw_cell_below h5 hcell)
        go_ret2
        exact ⟨by simp [commentF, HZ.out, HV.out], h5⟩
      · have hy35 : (y != 35) = true := by simpa using h35
        have hz : isComment xs = false := by simp [isComment, HY.out, h35]
        have HZ := Aside0.mk hz
        clear hz
        go_enter Tryd.func31, Tryd.ntmps31
        go_wp2_with (go_at_call 26; refine (Rest_calls _ _ c xs w HR.out HM.out HN.out).mono ?_; rintro e w' ⟨A', c', rfl, h4, h5⟩; have hcc := pw_cell_below h5 hcell)
        go_ret2
        exact P.out _ h5 HZ.out

def isClear (xs : List Int) : Bool := isComment xs || (nb xs).isEmpty
theorem Clear_calls (A : Option Addr) (n c : Nat) (xs : List Int) (w : World) (hr : (Kd.int .u8).C w A n xs) (hc : n ≤ c) (hn : n ≤ 1000000) :
    Calls Tryd.prog 33 #[.slice A n c] w fun e w' => e = .returned (.bool (isClear xs)) ∧ Below w.heap.size w w' := by
  have HR := Aside0.mk hr
  have HM := Aside0.mk hc
  have HN := Aside0.mk hn
  clear hr hc
  cases hic : isComment xs with
  | true =>
    have HZ := Aside0.mk hic
    go_enter Tryd.func33, Tryd.ntmps33
    go_wp2_with (go_at_call 31; refine (Comment_calls A n c xs w HR.out HM.out HN.out).mono ?_; rintro e w' ⟨rfl, h5⟩)
    go_ret
    exact ⟨by simp [isClear, HZ.out], h5⟩
  | false =>
    have HZ := Aside0.mk hic
    by_cases he : nb xs = []
    · have t1 : (((nb xs).length : Int) == 0) = true := by simp [he]
      have HE := Aside0.mk he
      clear he
      go_enter Tryd.func33, Tryd.ntmps33
      go_wp2_with (first | (go_at_call 31; refine (Comment_calls A n c xs w HR.out HM.out HN.out).mono ?_; rintro e w1 ⟨rfl, h5⟩) | (go_at_call 26; refine (Rest_calls A n c xs w1 (Kd.C_below HR.out h5) HM.out HN.out).mono ?_; rintro e w2 ⟨A', c', rfl, h6, h7⟩))
      go_ret
      exact ⟨by simp [isClear, HE.out], below_step h5 h7⟩
    · have t1 : (((nb xs).length : Int) == 0) = false := by simp [he]
      have HE := Aside0.mk he
      clear he
      go_enter Tryd.func33, Tryd.ntmps33
      go_wp2_with (first | (go_at_call 31; refine (Comment_calls A n c xs w HR.out HM.out HN.out).mono ?_; rintro e w1 ⟨rfl, h5⟩) | (go_at_call 26; refine (Rest_calls A n c xs w1 (Kd.C_below HR.out h5) HM.out HN.out).mono ?_; rintro e w2 ⟨A', c', rfl, h6, h7⟩))
      go_ret
      exact ⟨by simp [isClear, HE.out, HZ.out], below_step h5 h7⟩
end Go.Proofs.YtllgfccckcgekaaDoor
