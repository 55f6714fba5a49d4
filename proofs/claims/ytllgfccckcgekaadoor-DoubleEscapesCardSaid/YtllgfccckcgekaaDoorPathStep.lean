/- What path.step computes. Conditions: texts of at most 1000000 bytes. -/
import Derived.Test.YtllgfccckcgekaaDoorPathNum
import Derived.Test.YtllgfccckcgekaaDoorTakeD
import Derived.Test.YtllgfccckcgekaaDoorStr
import Derived.Laws.Rows
namespace Go.Proofs.YtllgfccckcgekaaDoor
set_option maxRecDepth 100000
set_option maxHeartbeats 4000000
open Go.RowKit Go.Proofs.YtllgfccckcgekaaDoorW.PrintWords Go.Proofs.YtllgfccckcgekaaDoorW.PrintLast Go.Proofs.YtllgfccckcgekaaDoorW.PrintMore

theorem cut1_yes (s : ByteArray) (c : UInt8) (t : List Int) (h : bytesOf s = (c.toNat : Int) :: t) (w : World) : Calls Tryd.prog 109 #[.string s, .string ⟨#[c]⟩] w fun e w' => e = .returned (.tuple #[.string (strOfNums t), .bool true]) ∧ w = w' := by
  refine (SCutPrefix_calls s ⟨#[c]⟩ w).mono ?_
  rintro e w' ⟨r, rfl, hr, rfl⟩
  have e1 : bytesOf (⟨#[c]⟩ : ByteArray) = [(c.toNat : Int)] := rfl
  have hp : hasPre (bytesOf s) [(c.toNat : Int)] = true := by rw [h]; simp [hasPre]
  rw [e1] at hr ⊢
  have ht : bytesOf r = t := by rw [hr]; unfold cutPre; rw [hp, h]; simp
  rw [hp, ← ht, strOfNums_bytesOf]
  exact ⟨rfl, rfl⟩
theorem cut1_no (s : ByteArray) (c : UInt8) (h : ∀ t, bytesOf s ≠ (c.toNat : Int) :: t) (w : World) : Calls Tryd.prog 109 #[.string s, .string ⟨#[c]⟩] w fun e w' => e = .returned (.tuple #[.string s, .bool false]) ∧ w = w' := by
  refine (SCutPrefix_calls s ⟨#[c]⟩ w).mono ?_
  rintro e w' ⟨r, rfl, hr, rfl⟩
  have e1 : bytesOf (⟨#[c]⟩ : ByteArray) = [(c.toNat : Int)] := rfl
  have hp : hasPre (bytesOf s) [(c.toNat : Int)] = false := by
    cases hb : bytesOf s with
    | nil => rfl
    | cons x t =>
      have : x ≠ (c.toNat : Int) := by rintro rfl; exact h t hb
      simp only [hasPre, List.isPrefixOf_cons_cons, List.isPrefixOf_nil_left, Bool.and_true, beq_eq_false_iff_ne]
      exact Ne.symm this
  rw [e1] at hr ⊢
  have ht : r = s := by
    have : bytesOf r = bytesOf s := by rw [hr]; unfold cutPre; rw [hp]; simp
    rw [← strOfNums_bytesOf r, this, strOfNums_bytesOf]
  rw [hp, ht]
  exact ⟨rfl, rfl⟩
def stpV (x : Stp) : Value := .agg #[.int .i64 x.kind, .string (strOfNums x.name), .int .i64 x.n]
def StepPost (xs : List Int) (e : Ending) : Prop := match stepF xs with
  | some (x, r) => e = .returned (.tuple #[stpV x, .string (strOfNums r), .bool true])
  | none => ∃ (k : Int) (nm : ByteArray) (n : Int) (l : ByteArray), e = .returned (.tuple #[.agg #[.int .i64 k, .string nm, .int .i64 n], .string l, .bool false])
theorem bz_str {xs : List Int} (bx : Byt xs) : bytesOf (strOfNums xs) = xs :=
  strOfNums_inj (bytesOf_byt _) bx (strOfNums_bytesOf _)
theorem size_str {xs : List Int} : (strOfNums xs).size = xs.length := by
  have h := data_length (strOfNums xs)
  rw [strOfNums_data] at h
  simpa using h.symm
theorem size27 : (Tryd.prog.info? 27).map (·.size) = some 3 := by kernel_rfl
theorem cells27 {w : World} {g : Nat} {a b c : Value} (h : w.heap[g]? = some (.cells #[a, b, c] 27 (0, 0))) : (w.cell? ⟨g, 0, none⟩ = some a ∧ w.cell? ⟨g, 1, none⟩ = some b ∧ w.cell? ⟨g, 2, none⟩ = some c) ∧ (w.frozen? ⟨g, 0, none⟩ = false ∧ w.frozen? ⟨g, 1, none⟩ = false ∧ w.frozen? ⟨g, 2, none⟩ = false) :=
  ⟨⟨(blk_cell h 0).trans rfl, (blk_cell h 1).trans rfl, (blk_cell h 2).trans rfl⟩, blk_frozen h 0, blk_frozen h 1, blk_frozen h 2⟩
theorem set27 {w : World} {g : Nat} {a b c a' b' c' : Value} (h : w.heap[g]? = some (.cells #[a, b, c] 27 (0, 0))) : (((w.setCell ⟨g, 0, none⟩ a').setCell ⟨g, 1, none⟩ b').setCell ⟨g, 2, none⟩ c').heap[g]? = some (.cells #[a', b', c'] 27 (0, 0)) := blk_set (blk_set (blk_set h 0 _) 1 _) 2 _
theorem below27 {B : Nat} {w0 w : World} {g : Nat} {a b c : Value} (h : Below B w0 w) (hg : B ≤ g) : Below B w0 (((w.setCell ⟨g, 0, none⟩ a).setCell ⟨g, 1, none⟩ b).setCell ⟨g, 2, none⟩ c) := ((h.setCell (p := ⟨g, 0, none⟩) hg _).setCell (p := ⟨g, 1, none⟩) hg _).setCell (p := ⟨g, 2, none⟩) hg _
theorem blk_newd (w : World) (o : Obj) : (w.alloc o).drew.heap[w.heap.size]? = some o := blk_new w o
theorem set27d {w : World} {g : Nat} {a b c a' b' c' : Value} (h : w.heap[g]? = some (.cells #[a, b, c] 27 (0, 0))) : (((w.setCell ⟨g, 0, none⟩ a').setCell ⟨g, 1, none⟩ b').setCell ⟨g, 2, none⟩ c').drew.heap[g]? = some (.cells #[a', b', c'] 27 (0, 0)) := set27 h
theorem results_st {w : World} {g : Nat} {k n : Int} {nm : ByteArray} (hp : w.heap[g]? = some (.cells #[.int .i64 k, .string nm, .int .i64 n] 27 (0, 0))) (tmps : Array Value) (h2 : tmps.getD 2 undef = .pointer (some ⟨g, 0, none⟩)) :
    (results Tryd.f72 tmps).run Tryd.prog w = .ok (.tuple #[.agg #[.int .i64 k, .string nm, .int .i64 n], tmps.getD 3 undef, tmps.getD 4 undef]) w := by
  have hl := run_loadVar_row (P := Tryd.prog) w g 27 27 _ (0, 0) _ hp Tryd.underlying27 rfl size27
  simp only [Array.getD_eq_getD_getElem?] at h2
  simp [results, h2, asAddr, hl]
theorem step_calls (s : ByteArray) (w : World) (hs : s.size ≤ 1000000) : Calls Tryd.prog 72 #[.string s] w fun e w' => StepPost (bytesOf s) e ∧ Below w.heap.size w w' := by
  have hby := bytesOf_byt s
  have hln := bytesOf_length s
  cases hx : bytesOf s with
  | nil =>
    have c1 := cut1_no s 91 (by rw [hx]; simp)
    have c2 := cut1_no s 46 (by rw [hx]; simp)
    have C1 := Aside0.mk c1
    have C2 := Aside0.mk c2
    clear c1 c2 hx hby hln
    go_enter Tryd.func72, Tryd.ntmps72
    go_wp2_with fail
    refine (C1.out _).mono ?_
    rintro e w1 ⟨rfl, rfl⟩
    go_wp2_with fail
    refine (C2.out _).mono ?_
    rintro e w1 ⟨rfl, rfl⟩
    go_wp2
    exact bodyPost_ret (results_st (blk_new w _) _ rfl) rfl ⟨⟨_, _, _, _, rfl⟩, below_alloc (Below.refl _ _) _⟩
  | cons x t =>
    rw [hx] at hby hln
    have bt : Byt t := fun y hy => hby y (by simp [hy])
    have tl : t.length ≤ 999999 := by simp at hln; omega
    by_cases h91 : x = 91
    · subst h91
      have C1 := Aside0.mk (cut1_yes s 91 t hx)
      have hnum := fun w => number_calls (strOfNums t) w (by rw [size_str]; omega)
      rw [bz_str bt] at hnum
      clear hx hby
      cases hn : numberF t with
      | none =>
        rw [hn] at hnum
        have HN := Aside0.mk hnum
        have C2 := Aside0.mk (cut1_no ⟨#[]⟩ 93 (by intro t; simp [bytesOf]))
        have HP : Aside0 (stepF (91 :: t) = none) := ⟨by simp only [stepF, hn]⟩
        clear hnum hn
        unfold strRet3 at HN
        go_enter Tryd.func72, Tryd.ntmps72
        go_wp2_with fail
        refine (C1.out _).mono ?_
        rintro e w1 ⟨rfl, rfl⟩
        go_wp2_with fail
        refine (HN.out _).mono ?_
        rintro e w1 ⟨rfl, hb1⟩
        have hq1 := (hb1.block w.heap.size (by simp)).trans (blk_new w _)
        obtain ⟨⟨k0, k1, k2⟩, f0, f1, f2⟩ := cells27 hq1
        have HQ1 := Aside0.mk hq1
        have HB1 := Aside0.mk (below_step (below_alloc (Below.refl w.heap.size w) _) hb1)
        clear hq1
        go_wp2_with fail
        refine (C2.out _).mono ?_
        rintro e w2 ⟨rfl, rfl⟩
        go_wp2
        refine bodyPost_ret (results_st (set27 HQ1.out) _ rfl) rfl ⟨?_, below27 HB1.out (Nat.le_refl _)⟩
        unfold StepPost
        rw [HP.out]
        exact ⟨_, _, _, _, rfl⟩
      | some vr =>
        obtain ⟨v, r⟩ := vr
        rw [hn] at hnum
        have HN := Aside0.mk hnum
        have hr : r = t.drop (t.takeWhile digitF).length := by
          unfold numberF at hn
          simp only at hn
          split at hn
          · cases hn
          · simp only [Option.some.injEq, Prod.mk.injEq] at hn; exact hn.2.symm
        have br : Byt r := fun y hy => bt y (by rw [hr] at hy; exact List.mem_of_mem_drop hy)
        clear hnum hr
        unfold strRet3 at HN
        by_cases h93 : ∃ r', r = 93 :: r'
        · obtain ⟨r', rfl⟩ := h93
          have C2 := Aside0.mk (cut1_yes (strOfNums (93 :: r')) 93 r' (bz_str br))
          have HP : Aside0 (stepF (91 :: t) = some (⟨3, [], v⟩, r')) := ⟨by simp only [stepF, hn]⟩
          clear hn
          go_enter Tryd.func72, Tryd.ntmps72
          go_wp2_with fail
          refine (C1.out _).mono ?_
          rintro e w1 ⟨rfl, rfl⟩
          go_wp2_with fail
          refine (HN.out _).mono ?_
          rintro e w1 ⟨rfl, hb1⟩
          have hq1 := (hb1.block w.heap.size (by simp)).trans (blk_new w _)
          obtain ⟨⟨k0, k1, k2⟩, f0, f1, f2⟩ := cells27 hq1
          have HQ1 := Aside0.mk hq1
          have HB1 := Aside0.mk (below_step (below_alloc (Below.refl w.heap.size w) _) hb1)
          clear hq1
          go_wp2_with fail
          refine (C2.out _).mono ?_
          rintro e w2 ⟨rfl, rfl⟩
          go_wp2
          refine bodyPost_ret (results_st (set27 HQ1.out) _ rfl) rfl ⟨?_, below27 HB1.out (Nat.le_refl _)⟩
          unfold StepPost
          rw [HP.out]
          rfl
        · have C2 := Aside0.mk (cut1_no (strOfNums r) 93 (by intro t h; rw [bz_str br] at h; exact h93 ⟨t, h⟩))
          have HP : Aside0 (stepF (91 :: t) = none) := ⟨by
            simp only [stepF, hn]
            split
            · rename_i h; simp only [Option.some.injEq, Prod.mk.injEq] at h; exact absurd ⟨_, h.2⟩ h93
            · rfl⟩
          clear hn h93
          go_enter Tryd.func72, Tryd.ntmps72
          go_wp2_with fail
          refine (C1.out _).mono ?_
          rintro e w1 ⟨rfl, rfl⟩
          go_wp2_with fail
          refine (HN.out _).mono ?_
          rintro e w1 ⟨rfl, hb1⟩
          have hq1 := (hb1.block w.heap.size (by simp)).trans (blk_new w _)
          obtain ⟨⟨k0, k1, k2⟩, f0, f1, f2⟩ := cells27 hq1
          have HQ1 := Aside0.mk hq1
          have HB1 := Aside0.mk (below_step (below_alloc (Below.refl w.heap.size w) _) hb1)
          clear hq1
          go_wp2_with fail
          refine (C2.out _).mono ?_
          rintro e w2 ⟨rfl, rfl⟩
          go_wp2
          refine bodyPost_ret (results_st (set27 HQ1.out) _ rfl) rfl ⟨?_, below27 HB1.out (Nat.le_refl _)⟩
          unfold StepPost
          rw [HP.out]
          exact ⟨_, _, _, _, rfl⟩
    · have C1 := Aside0.mk (cut1_no s 91 (by intro t' h; rw [hx] at h; simp at h; exact h91 h.1))
      by_cases h46 : x = 46
      · subst h46
        have C2 := Aside0.mk (cut1_yes s 46 t hx)
        clear hx hby
        cases t with
        | nil =>
          have HP : Aside0 (stepF [46] = none) := ⟨rfl⟩
          have C2' : Aside0 (∀ w : World, Calls Tryd.prog 109 #[.string s, .string ⟨#[46]⟩] w fun e w' => e = .returned (.tuple #[.string ⟨#[]⟩, .bool true]) ∧ w = w') := C2
          clear C2
          go_enter Tryd.func72, Tryd.ntmps72
          go_wp2_with fail
          refine (C1.out _).mono ?_
          rintro e w1 ⟨rfl, rfl⟩
          go_wp2_with fail
          refine (C2'.out _).mono ?_
          rintro e w1 ⟨rfl, rfl⟩
          go_wp2
          refine bodyPost_ret (results_st (blk_new w _) _ rfl) rfl ⟨?_, below_alloc (Below.refl _ _) _⟩
          unfold StepPost
          rw [HP.out]
          exact ⟨_, _, _, _, rfl⟩
        | cons c u =>
          obtain ⟨L, hL⟩ : ∃ L, L = strOfNums (c :: u) := ⟨_, rfl⟩
          rw [← hL] at C2
          have hLb : bytesOf L = c :: u := by rw [hL]; exact bz_str bt
          have hLs : L.size = u.length + 1 := by rw [← bytesOf_length, hLb]; rfl
          have h0 : 0 < L.size := by omega
          have hc : (L[0].toNat : Int) = c := by
            have := str_at L 0 h0
            rw [hLb] at this
            simpa using this.symm
          have hbc := bt c (by simp)
          have hne : L.toList.isEmpty = false := by rw [isEmpty_toList, hLb]; rfl
          have hLsz : L.size ≤ 1000000 := by simp at tl; omega
          have hL1 : 1 ≤ L.size := by omega
          clear hLs
          have HLB := Aside0.mk hLb
          by_cases h46 : c = 46
          · subst h46
            have hcut := cut_from_str L 1
            rw [HLB.out] at hcut
            simp only [List.drop_succ_cons, List.drop_zero] at hcut
            have HP : Aside0 (stepF (46 :: 46 :: u) = some (⟨5, [], 0⟩, u)) := ⟨by simp [stepF]⟩
            clear hLb hL
            go_enter Tryd.func72, Tryd.ntmps72
            go_wp2_with fail
            refine (C1.out _).mono ?_
            rintro e w1 ⟨rfl, rfl⟩
            go_wp2_with fail
            refine (C2.out _).mono ?_
            rintro e w1 ⟨rfl, rfl⟩
            go_wp2
            go_region
            go_wp2
            refine bodyPost_ret (results_st (blk_newd w _) _ rfl) rfl ⟨?_, (below_alloc (Below.refl _ _) _).drew⟩
            unfold StepPost
            rw [HP.out]
            rfl
          · have b46 : (c == 46) = false := by simpa using h46
            by_cases h42 : c = 42
            · subst h42
              have hcut := cut_from_str L 1
              rw [HLB.out] at hcut
              simp only [List.drop_succ_cons, List.drop_zero] at hcut
              have HP : Aside0 (stepF (46 :: 42 :: u) = some (⟨4, [], 0⟩, u)) := ⟨by simp [stepF]⟩
              clear hLb hL
              go_enter Tryd.func72, Tryd.ntmps72
              go_wp2_with fail
              refine (C1.out _).mono ?_
              rintro e w1 ⟨rfl, rfl⟩
              go_wp2_with fail
              refine (C2.out _).mono ?_
              rintro e w1 ⟨rfl, rfl⟩
              go_wp2
              go_region
              go_wp2
              refine bodyPost_ret (results_st (blk_newd w _) _ rfl) rfl ⟨?_, (below_alloc (Below.refl _ _) _).drew⟩
              unfold StepPost
              rw [HP.out]
              rfl
            · have b42 : (c == 42) = false := by simpa using h42
              by_cases h34 : c = 34
              · subst h34
                have hbL : Byt (bytesOf L) := bytesOf_byt L
                cases ht : takeD (34 :: u) with
                | none =>
                  have HP : Aside0 (stepF (46 :: 34 :: u) = none) := ⟨by simp [stepF, ht]⟩
                  have HT := Aside0.mk ht
                  clear hLb hL ht
                  go_enter Tryd.func72, Tryd.ntmps72
                  go_wp2_with fail
                  refine (C1.out _).mono ?_
                  rintro e w1 ⟨rfl, rfl⟩
                  go_wp2_with fail
                  refine (C2.out _).mono ?_
                  rintro e w1 ⟨rfl, rfl⟩
                  go_wp2_with (with_reducible refine wpList_bytes (o := ⟨some 70, _, _, _, _, _⟩) rfl (.tmp 69) rfl _ rfl (by omega) ?_; intro B d W1 hd hC hb)
                  refine (TakeD_calls B L.size d (bytesOf L) W1 hC hbL hd (by omega)).mono ?_
                  rw [HLB.out, HT.out]
                  unfold takeRet
                  rintro e w2 ⟨rfl, hb2⟩
                  have hb1 := below_step hb hb2
                  have hq1 := (hb1.block w.heap.size (by simp)).trans (blk_new w _)
                  obtain ⟨⟨k0, k1, k2⟩, f0, f1, f2⟩ := cells27 hq1
                  have HQ1 := Aside0.mk hq1
                  have HB1 := Aside0.mk (below_step (below_alloc (Below.refl w.heap.size w) _) hb1)
                  clear hq1
                  go_wp2
                  go_region
                  go_wp2
                  refine bodyPost_ret (results_st (set27d HQ1.out) _ rfl) rfl ⟨?_, (below27 HB1.out (Nat.le_refl _)).drew⟩
                  unfold StepPost
                  rw [HP.out]
                  exact ⟨_, _, _, _, rfl⟩
                | some vn =>
                  obtain ⟨v, n⟩ := vn
                  have HP : Aside0 (stepF (46 :: 34 :: u) = some (⟨2, v, 0⟩, (34 :: u).drop n)) := ⟨by simp [stepF, ht]⟩
                  have hcut := cut_from_str L n
                  rw [hLb] at hcut
                  have hnL : n ≤ L.size := by have := (takeD_le ht).2; rw [← hLb, bytesOf_length] at this; exact this
                  have HT := Aside0.mk ht
                  clear hLb hL ht
                  go_enter Tryd.func72, Tryd.ntmps72
                  go_wp2_with fail
                  refine (C1.out _).mono ?_
                  rintro e w1 ⟨rfl, rfl⟩
                  go_wp2_with fail
                  refine (C2.out _).mono ?_
                  rintro e w1 ⟨rfl, rfl⟩
                  go_wp2_with (with_reducible refine wpList_bytes (o := ⟨some 70, _, _, _, _, _⟩) rfl (.tmp 69) rfl _ rfl (by omega) ?_; intro B d W1 hd hC hb)
                  refine (TakeD_calls B L.size d (bytesOf L) W1 hC hbL hd (by omega)).mono ?_
                  rw [HLB.out, HT.out]
                  unfold takeRet
                  rintro e w2 ⟨rfl, hb2⟩
                  have hb1 := below_step hb hb2
                  have hq1 := (hb1.block w.heap.size (by simp)).trans (blk_new w _)
                  obtain ⟨⟨k0, k1, k2⟩, f0, f1, f2⟩ := cells27 hq1
                  have HQ1 := Aside0.mk hq1
                  have HB1 := Aside0.mk (below_step (below_alloc (Below.refl w.heap.size w) _) hb1)
                  clear hq1
                  go_wp2
                  go_region
                  go_wp2
                  refine bodyPost_ret (results_st (set27d HQ1.out) _ rfl) rfl ⟨?_, (below27 HB1.out (Nat.le_refl _)).drew⟩
                  unfold StepPost
                  rw [HP.out]
                  rfl
              · have b34 : (c == 34) = false := by simpa using h34
                have hnam := fun w => name_calls L w hLsz
                rw [hLb] at hnam
                cases hn : nameP (c :: u) with
                | none =>
                  rw [hn] at hnam
                  have HN := Aside0.mk hnam
                  have HP : Aside0 (stepF (46 :: c :: u) = none) := ⟨by simp [stepF, h46, h42, h34, hn]⟩
                  unfold strRet3s at HN
                  clear hnam hn hLb hL
                  go_enter Tryd.func72, Tryd.ntmps72
                  go_wp2_with fail
                  refine (C1.out _).mono ?_
                  rintro e w1 ⟨rfl, rfl⟩
                  go_wp2_with fail
                  refine (C2.out _).mono ?_
                  rintro e w1 ⟨rfl, rfl⟩
                  go_wp2_with fail
                  refine (HN.out _).mono ?_
                  rintro e w2 ⟨rfl, hb1⟩
                  have hq1 := (hb1.block w.heap.size (by simp)).trans (blk_new w _)
                  obtain ⟨⟨k0, k1, k2⟩, f0, f1, f2⟩ := cells27 hq1
                  have HQ1 := Aside0.mk hq1
                  have HB1 := Aside0.mk (below_step (below_alloc (Below.refl w.heap.size w) _) hb1)
                  clear hq1
                  go_wp2
                  refine bodyPost_ret (results_st (set27 HQ1.out) _ rfl) rfl ⟨?_, below27 HB1.out (Nat.le_refl _)⟩
                  unfold StepPost
                  rw [HP.out]
                  exact ⟨_, _, _, _, rfl⟩
                | some vr =>
                  obtain ⟨v, r⟩ := vr
                  rw [hn] at hnam
                  have HN := Aside0.mk hnam
                  have HP : Aside0 (stepF (46 :: c :: u) = some (⟨2, v, 0⟩, r)) := ⟨by simp [stepF, h46, h42, h34, hn]⟩
                  unfold strRet3s at HN
                  clear hnam hn hLb hL
                  go_enter Tryd.func72, Tryd.ntmps72
                  go_wp2_with fail
                  refine (C1.out _).mono ?_
                  rintro e w1 ⟨rfl, rfl⟩
                  go_wp2_with fail
                  refine (C2.out _).mono ?_
                  rintro e w1 ⟨rfl, rfl⟩
                  go_wp2_with fail
                  refine (HN.out _).mono ?_
                  rintro e w2 ⟨rfl, hb1⟩
                  have hq1 := (hb1.block w.heap.size (by simp)).trans (blk_new w _)
                  obtain ⟨⟨k0, k1, k2⟩, f0, f1, f2⟩ := cells27 hq1
                  have HQ1 := Aside0.mk hq1
                  have HB1 := Aside0.mk (below_step (below_alloc (Below.refl w.heap.size w) _) hb1)
                  clear hq1
                  go_wp2
                  refine bodyPost_ret (results_st (set27 HQ1.out) _ rfl) rfl ⟨?_, below27 HB1.out (Nat.le_refl _)⟩
                  unfold StepPost
                  rw [HP.out]
                  rfl
      · have C2 := Aside0.mk (cut1_no s 46 (by intro t' h; rw [hx] at h; simp at h; exact h46 h.1))
        have HP : Aside0 (stepF (x :: t) = none) := ⟨by
          unfold stepF
          split
          · rename_i h; simp at h; exact absurd h.1 h91
          · rename_i h; simp at h; exact absurd h.1 h46
          · rfl⟩
        clear hx hby h91 h46
        go_enter Tryd.func72, Tryd.ntmps72
        go_wp2_with fail
        refine (C1.out _).mono ?_
        rintro e w1 ⟨rfl, rfl⟩
        go_wp2_with fail
        refine (C2.out _).mono ?_
        rintro e w1 ⟨rfl, rfl⟩
        go_wp2
        refine bodyPost_ret (results_st (blk_new w _) _ rfl) rfl ⟨?_, below_alloc (Below.refl _ _) _⟩
        unfold StepPost
        rw [HP.out]
        exact ⟨_, _, _, _, rfl⟩
end Go.Proofs.YtllgfccckcgekaaDoor
