/- What Marker computes. Conditions: slices of at most 1000000 bytes. -/
import Derived.Test.YtllgfccckcgekaaDoorTail3
namespace Go.Proofs.YtllgfccckcgekaaDoor
set_option maxRecDepth 100000
set_option maxHeartbeats 1000000
open Go.RowKit Go.Proofs.YtllgfccckcgekaaDoorW.PrintWords Go.Proofs.YtllgfccckcgekaaDoorW.PrintLast Go.Proofs.YtllgfccckcgekaaDoorW.PrintMore

def tailM (k : Int) (r : List Int) : Int := if isClear r then k else if r.head? == some 32 || r.head? == some 9 then 3 else 0
def markF (xs : List Int) : Int := if hasPre xs [45, 45, 45] then tailM 1 (xs.drop 3) else if hasPre xs [46, 46, 46] then tailM 2 (xs.drop 3) else 0
def marks : Array Value := #[.string ⟨#[]⟩, .string ⟨#[45, 45, 45]⟩, .string ⟨#[46, 46, 46]⟩]
def goneBy (xs : List Int) (k : Nat) : Prop := (2 ≤ k → hasPre xs [45, 45, 45] = true → tailM 1 (xs.drop 3) = 0) ∧ (3 ≤ k → hasPre xs [46, 46, 46] = true → tailM 2 (xs.drop 3) = 0)

theorem gone_no1 {xs : List Int} (h : hasPre xs [45, 45, 45] = false) : goneBy xs 2 := ⟨fun _ h' => (by rw [h] at h'; cases h'), fun h => by omega⟩
theorem gone_1 {xs : List Int} (h : tailM 1 (xs.drop 3) = 0) : goneBy xs 2 := ⟨fun _ _ => h, fun h => by omega⟩
theorem gone_no2 {xs : List Int} (g : goneBy xs 2) (h : hasPre xs [46, 46, 46] = false) : goneBy xs 3 := ⟨fun _ => g.1 (by omega), fun _ h' => by rw [h] at h'; cases h'⟩
theorem gone_2 {xs : List Int} (g : goneBy xs 2) (h : tailM 2 (xs.drop 3) = 0) : goneBy xs 3 := ⟨fun _ => g.1 (by omega), fun _ _ => h⟩
theorem mark_1 {xs : List Int} (h : hasPre xs [45, 45, 45] = true) : markF xs = tailM 1 (xs.drop 3) := by simp [markF, h]
theorem mark_2 {xs : List Int} (h : hasPre xs [46, 46, 46] = true) : markF xs = tailM 2 (xs.drop 3) := by
  have h1 : hasPre xs [45, 45, 45] = false := by
    rw [hasPre_take] at h ⊢
    have h := of_decide_eq_true h
    simp only [List.length_cons, List.length_nil] at h ⊢
    simp [h]
  simp [markF, h, h1]
theorem mark_none {xs : List Int} (g : goneBy xs 3) : markF xs = 0 := by
  unfold markF
  split
  · exact g.1 (by omega) ‹_›
  · split
    · exact g.2 (by omega) ‹_›
    · rfl
theorem cutPre_three {xs ys : List Int} (h : hasPre xs ys = true) (hl : ys.length = 3) : cutPre xs ys = xs.drop 3 := by simp [cutPre, h, hl]
theorem tailM_clear {k : Int} {r : List Int} (h : isClear r = true) : tailM k r = k := by simp [tailM, h]
theorem head_rd {r : List Int} (h : 0 < r.length) : r.head? = some (rd r 0) := by
  cases r with
  | nil => simp at h
  | cons x t => rfl
theorem notClear_pos {r : List Int} (h : isClear r = false) : 0 < r.length := by
  cases r with
  | nil => simp [isClear, nb] at h
  | cons x t => simp
theorem tailM_3 {k : Int} {r : List Int} (h : isClear r = false) (h3 : (rd r 0 == 32) = true ∨ (rd r 0 == 9) = true) : tailM k r = 3 := by
  unfold tailM
  rw [head_rd (notClear_pos h), h]
  rcases h3 with h3 | h3
  · have := eq_of_beq h3
    rw [this]; rfl
  · have := eq_of_beq h3
    rw [this]; rfl
theorem tailM_0 {k : Int} {r : List Int} (h : isClear r = false) (h1 : (rd r 0 == 32) = false) (h2 : (rd r 0 == 9) = false) : tailM k r = 0 := by
  unfold tailM
  rw [head_rd (notClear_pos h), h]
  simp only [beq_eq_false_iff_ne] at h1 h2
  simp [h1, h2]

theorem C_head {k : IntKind} {w : World} {A : Option Addr} {n : Nat} {xs : List Int} (h : (Kd.int k).C w A n xs) (hn : 0 < n) : ∃ ad, A = some ad ∧ w.cell? ad = some (.int k (rd xs 0)) := by
  obtain ⟨ad, e, hc⟩ := Kd.at_int h 0 (by omega) (by omega)
  exact ⟨ad, e, by simpa [Addr.add] using hc⟩
theorem bytesOf_byt (s : ByteArray) : Byt (bytesOf s) := by
  intro x hx
  unfold bytesOf at hx
  obtain ⟨b, _, rfl⟩ := List.mem_map.1 hx
  have := b.toNat_lt
  omega
theorem Marker_calls (A : Option Addr) (n c : Nat) (xs : List Int) (w : World) (hx : (Kd.int .u8).C w A n xs) (bx : Byt xs) (hc : n ≤ c) (hn : n ≤ 1000000) :
    Calls Tryd.prog 35 #[.slice A n c] w fun e w' => e = .returned (.int .i64 (markF xs)) ∧ Below w.heap.size w w' := by
  have HX := Aside0.mk hx
  have LX := Aside0.mk hx.1
  clear hx
  go_enter Tryd.func35, Tryd.ntmps35
  go_wp2_with fail
  go_loopw [9, 3, 4, 5, 6] (fun i _ _ _ _ wr => ∃ k : Nat, k ≤ 3 ∧ i = .int .i64 k ∧ Aside0 (wr.heap[w.heap.size]? = some (.cells marks 9 (0, 0))) ∧ Aside0 (Below w.heap.size w wr) ∧ Aside0 (goneBy xs k)) (fun i _ _ _ _ _ => 3 - (intOf i).toNat)
  case atStart => exact ⟨0, by omega, rfl, ⟨blk_new w _⟩, ⟨below_alloc (Below.refl _ _) _⟩, ⟨by simp [goneBy]⟩⟩
  case round =>
    obtain ⟨k, hk, rfl, HM, HB, HG⟩ := hrel
    have c0 : wr.cell? ⟨w.heap.size, 0, none⟩ = some (.string ⟨#[]⟩) := (blk_cell HM.out 0).trans rfl
    have c1 : wr.cell? ⟨w.heap.size, 1, none⟩ = some (.string ⟨#[45, 45, 45]⟩) := (blk_cell HM.out 1).trans rfl
    have c2 : wr.cell? ⟨w.heap.size, 2, none⟩ = some (.string ⟨#[46, 46, 46]⟩) := (blk_cell HM.out 2).trans rfl
    have hcase : k = 0 ∨ k = 1 ∨ k = 2 ∨ k = 3 := by omega
    rcases hcase with rfl | rfl | rfl | rfl
    · go_wp2_with (first | (with_reducible refine wpList_bytes (o := ⟨some 17, _, _, _, _, _⟩) rfl (.tmp 16) rfl ⟨#[]⟩ rfl (by decide) ?_; intro B d W1 hd hC hb1) | (go_at_call 70; refine (CutPrefix_calls A B n c _ d xs (bytesOf ⟨#[]⟩) W1 (Kd.C_below HX.out (HB.out.trans (hb1.mono HB.out.size))) hC bx (bytesOf_byt _) hc).mono ?_; rintro e w2 ⟨A', c', rfl, h1, h2, h3⟩))
      have hb := below_step hb1 h3
      go_roundw
      case rel => exact ⟨1, by omega, rfl, ⟨(hb.block _ (blk_lt HM.out)).trans HM.out⟩, ⟨HB.out.trans (hb.mono HB.out.size)⟩, ⟨⟨fun h => by omega, fun h => by omega⟩⟩⟩
      case measure => simp [intOf]
    · cases hp : hasPre xs (bytesOf ⟨#[45, 45, 45]⟩) with
      | false =>
        have HP : Aside0 (hasPre xs [45, 45, 45] = false) := ⟨hp⟩
        go_wp2_with (first | (with_reducible refine wpList_bytes (o := ⟨some 17, _, _, _, _, _⟩) rfl (.tmp 16) rfl ⟨#[45, 45, 45]⟩ rfl (by decide) ?_; intro B d W1 hd hC hb1) | (go_at_call 70; refine (CutPrefix_calls A B n c _ d xs (bytesOf ⟨#[45, 45, 45]⟩) W1 (Kd.C_below HX.out (HB.out.trans (hb1.mono HB.out.size))) hC bx (bytesOf_byt _) hc).mono ?_; rintro e w2 ⟨A', c', rfl, h1, h2, h3⟩))
        have hb := below_step hb1 h3
        go_roundw
        case rel => exact ⟨2, by omega, rfl, ⟨(hb.block _ (blk_lt HM.out)).trans HM.out⟩, ⟨HB.out.trans (hb.mono HB.out.size)⟩, ⟨gone_no1 HP.out⟩⟩
        case measure => simp [intOf]
      | true =>
        have HP : Aside0 (hasPre xs [45, 45, 45] = true) := ⟨hp⟩
        have HE : Aside0 (cutPre xs (bytesOf ⟨#[45, 45, 45]⟩) = xs.drop 3) := ⟨cutPre_three hp rfl⟩
        have hcl : (cutPre xs (bytesOf ⟨#[45, 45, 45]⟩)).length ≤ 1000000 := by rw [HE.out, List.length_drop, LX.out]; omega
        cases hcr : isClear (cutPre xs (bytesOf ⟨#[45, 45, 45]⟩)) with
        | true =>
          have HCR := Aside0.mk hcr
          clear hcr
          go_wp2_with (first | (with_reducible refine wpList_bytes (o := ⟨some 17, _, _, _, _, _⟩) rfl (.tmp 16) rfl ⟨#[45, 45, 45]⟩ rfl (by decide) ?_; intro B d W1 hd hC hb1) | (go_at_call 70; refine (CutPrefix_calls A B n c _ d xs (bytesOf ⟨#[45, 45, 45]⟩) W1 (Kd.C_below HX.out (HB.out.trans (hb1.mono HB.out.size))) hC bx (bytesOf_byt _) hc).mono ?_; rintro e w2 ⟨A', c', rfl, h1, h2, h3⟩) | (go_at_call 33; refine (Clear_calls _ _ c' (cutPre xs (bytesOf ⟨#[45, 45, 45]⟩)) w2 h2 h1 hcl).mono ?_; rw [HCR.out]; rintro e w3 ⟨rfl, h4⟩))
          have hb := below_step (below_step hb1 h3) h4
          go_ret
          exact ⟨by rw [mark_1 HP.out, ← HE.out, tailM_clear HCR.out]; rfl, HB.out.trans (hb.mono HB.out.size)⟩
        | false =>
          have HCR := Aside0.mk hcr
          have hpos := notClear_pos hcr
          clear hcr
          by_cases h32 : (rd (cutPre xs (bytesOf ⟨#[45, 45, 45]⟩)) 0 == 32) = true
          · go_wp2_with (first | (with_reducible refine wpList_bytes (o := ⟨some 17, _, _, _, _, _⟩) rfl (.tmp 16) rfl ⟨#[45, 45, 45]⟩ rfl (by decide) ?_; intro B d W1 hd hC hb1) | (go_at_call 70; refine (CutPrefix_calls A B n c _ d xs (bytesOf ⟨#[45, 45, 45]⟩) W1 (Kd.C_below HX.out (HB.out.trans (hb1.mono HB.out.size))) hC bx (bytesOf_byt _) hc).mono ?_; rintro e w2 ⟨A', c', rfl, h1, h2, h3⟩; obtain ⟨ad, rfl, hcell⟩ := C_head h2 hpos) | (go_at_call 33; refine (Clear_calls _ _ c' (cutPre xs (bytesOf ⟨#[45, 45, 45]⟩)) w2 h2 h1 hcl).mono ?_; rw [HCR.out]; rintro e w3 ⟨rfl, h4⟩; have hcell3 := pw_cell_below h4 hcell))
            have hb := below_step (below_step hb1 h3) h4
            go_ret
            exact ⟨by rw [mark_1 HP.out, ← HE.out, tailM_3 HCR.out (.inl h32)]; rfl, HB.out.trans (hb.mono HB.out.size)⟩
          · have h32 := Bool.eq_false_iff.2 h32
            by_cases h9 : (rd (cutPre xs (bytesOf ⟨#[45, 45, 45]⟩)) 0 == 9) = true
            · go_wp2_with (first | (with_reducible refine wpList_bytes (o := ⟨some 17, _, _, _, _, _⟩) rfl (.tmp 16) rfl ⟨#[45, 45, 45]⟩ rfl (by decide) ?_; intro B d W1 hd hC hb1) | (go_at_call 70; refine (CutPrefix_calls A B n c _ d xs (bytesOf ⟨#[45, 45, 45]⟩) W1 (Kd.C_below HX.out (HB.out.trans (hb1.mono HB.out.size))) hC bx (bytesOf_byt _) hc).mono ?_; rintro e w2 ⟨A', c', rfl, h1, h2, h3⟩; obtain ⟨ad, rfl, hcell⟩ := C_head h2 hpos) | (go_at_call 33; refine (Clear_calls _ _ c' (cutPre xs (bytesOf ⟨#[45, 45, 45]⟩)) w2 h2 h1 hcl).mono ?_; rw [HCR.out]; rintro e w3 ⟨rfl, h4⟩; have hcell3 := pw_cell_below h4 hcell))
              have hb := below_step (below_step hb1 h3) h4
              go_ret
              exact ⟨by rw [mark_1 HP.out, ← HE.out, tailM_3 HCR.out (.inr h9)]; rfl, HB.out.trans (hb.mono HB.out.size)⟩
            · have h9 := Bool.eq_false_iff.2 h9
              go_wp2_with (first | (with_reducible refine wpList_bytes (o := ⟨some 17, _, _, _, _, _⟩) rfl (.tmp 16) rfl ⟨#[45, 45, 45]⟩ rfl (by decide) ?_; intro B d W1 hd hC hb1) | (go_at_call 70; refine (CutPrefix_calls A B n c _ d xs (bytesOf ⟨#[45, 45, 45]⟩) W1 (Kd.C_below HX.out (HB.out.trans (hb1.mono HB.out.size))) hC bx (bytesOf_byt _) hc).mono ?_; rintro e w2 ⟨A', c', rfl, h1, h2, h3⟩; obtain ⟨ad, rfl, hcell⟩ := C_head h2 hpos) | (go_at_call 33; refine (Clear_calls _ _ c' (cutPre xs (bytesOf ⟨#[45, 45, 45]⟩)) w2 h2 h1 hcl).mono ?_; rw [HCR.out]; rintro e w3 ⟨rfl, h4⟩; have hcell3 := pw_cell_below h4 hcell))
              have hb := below_step (below_step hb1 h3) h4
              go_roundw
              case rel => exact ⟨2, by omega, rfl, ⟨(hb.block _ (blk_lt HM.out)).trans HM.out⟩, ⟨HB.out.trans (hb.mono HB.out.size)⟩, ⟨gone_1 (by rw [← HE.out]; exact tailM_0 HCR.out h32 h9)⟩⟩
              case measure => simp [intOf]
    · cases hp : hasPre xs (bytesOf ⟨#[46, 46, 46]⟩) with
      | false =>
        have HP : Aside0 (hasPre xs [46, 46, 46] = false) := ⟨hp⟩
        go_wp2_with (first | (with_reducible refine wpList_bytes (o := ⟨some 17, _, _, _, _, _⟩) rfl (.tmp 16) rfl ⟨#[46, 46, 46]⟩ rfl (by decide) ?_; intro B d W1 hd hC hb1) | (go_at_call 70; refine (CutPrefix_calls A B n c _ d xs (bytesOf ⟨#[46, 46, 46]⟩) W1 (Kd.C_below HX.out (HB.out.trans (hb1.mono HB.out.size))) hC bx (bytesOf_byt _) hc).mono ?_; rintro e w2 ⟨A', c', rfl, h1, h2, h3⟩))
        have hb := below_step hb1 h3
        go_roundw
        case rel => exact ⟨3, by omega, rfl, ⟨(hb.block _ (blk_lt HM.out)).trans HM.out⟩, ⟨HB.out.trans (hb.mono HB.out.size)⟩, ⟨gone_no2 HG.out HP.out⟩⟩
        case measure => simp [intOf]
      | true =>
        have HP : Aside0 (hasPre xs [46, 46, 46] = true) := ⟨hp⟩
        have HE : Aside0 (cutPre xs (bytesOf ⟨#[46, 46, 46]⟩) = xs.drop 3) := ⟨cutPre_three hp rfl⟩
        have hcl : (cutPre xs (bytesOf ⟨#[46, 46, 46]⟩)).length ≤ 1000000 := by rw [HE.out, List.length_drop, LX.out]; omega
        cases hcr : isClear (cutPre xs (bytesOf ⟨#[46, 46, 46]⟩)) with
        | true =>
          have HCR := Aside0.mk hcr
          clear hcr
          go_wp2_with (first | (with_reducible refine wpList_bytes (o := ⟨some 17, _, _, _, _, _⟩) rfl (.tmp 16) rfl ⟨#[46, 46, 46]⟩ rfl (by decide) ?_; intro B d W1 hd hC hb1) | (go_at_call 70; refine (CutPrefix_calls A B n c _ d xs (bytesOf ⟨#[46, 46, 46]⟩) W1 (Kd.C_below HX.out (HB.out.trans (hb1.mono HB.out.size))) hC bx (bytesOf_byt _) hc).mono ?_; rintro e w2 ⟨A', c', rfl, h1, h2, h3⟩) | (go_at_call 33; refine (Clear_calls _ _ c' (cutPre xs (bytesOf ⟨#[46, 46, 46]⟩)) w2 h2 h1 hcl).mono ?_; rw [HCR.out]; rintro e w3 ⟨rfl, h4⟩))
          have hb := below_step (below_step hb1 h3) h4
          go_ret
          exact ⟨by rw [mark_2 HP.out, ← HE.out, tailM_clear HCR.out]; rfl, HB.out.trans (hb.mono HB.out.size)⟩
        | false =>
          have HCR := Aside0.mk hcr
          have hpos := notClear_pos hcr
          clear hcr
          by_cases h32 : (rd (cutPre xs (bytesOf ⟨#[46, 46, 46]⟩)) 0 == 32) = true
          · go_wp2_with (first | (with_reducible refine wpList_bytes (o := ⟨some 17, _, _, _, _, _⟩) rfl (.tmp 16) rfl ⟨#[46, 46, 46]⟩ rfl (by decide) ?_; intro B d W1 hd hC hb1) | (go_at_call 70; refine (CutPrefix_calls A B n c _ d xs (bytesOf ⟨#[46, 46, 46]⟩) W1 (Kd.C_below HX.out (HB.out.trans (hb1.mono HB.out.size))) hC bx (bytesOf_byt _) hc).mono ?_; rintro e w2 ⟨A', c', rfl, h1, h2, h3⟩; obtain ⟨ad, rfl, hcell⟩ := C_head h2 hpos) | (go_at_call 33; refine (Clear_calls _ _ c' (cutPre xs (bytesOf ⟨#[46, 46, 46]⟩)) w2 h2 h1 hcl).mono ?_; rw [HCR.out]; rintro e w3 ⟨rfl, h4⟩; have hcell3 := pw_cell_below h4 hcell))
            have hb := below_step (below_step hb1 h3) h4
            go_ret
            exact ⟨by rw [mark_2 HP.out, ← HE.out, tailM_3 HCR.out (.inl h32)]; rfl, HB.out.trans (hb.mono HB.out.size)⟩
          · have h32 := Bool.eq_false_iff.2 h32
            by_cases h9 : (rd (cutPre xs (bytesOf ⟨#[46, 46, 46]⟩)) 0 == 9) = true
            · go_wp2_with (first | (with_reducible refine wpList_bytes (o := ⟨some 17, _, _, _, _, _⟩) rfl (.tmp 16) rfl ⟨#[46, 46, 46]⟩ rfl (by decide) ?_; intro B d W1 hd hC hb1) | (go_at_call 70; refine (CutPrefix_calls A B n c _ d xs (bytesOf ⟨#[46, 46, 46]⟩) W1 (Kd.C_below HX.out (HB.out.trans (hb1.mono HB.out.size))) hC bx (bytesOf_byt _) hc).mono ?_; rintro e w2 ⟨A', c', rfl, h1, h2, h3⟩; obtain ⟨ad, rfl, hcell⟩ := C_head h2 hpos) | (go_at_call 33; refine (Clear_calls _ _ c' (cutPre xs (bytesOf ⟨#[46, 46, 46]⟩)) w2 h2 h1 hcl).mono ?_; rw [HCR.out]; rintro e w3 ⟨rfl, h4⟩; have hcell3 := pw_cell_below h4 hcell))
              have hb := below_step (below_step hb1 h3) h4
              go_ret
              exact ⟨by rw [mark_2 HP.out, ← HE.out, tailM_3 HCR.out (.inr h9)]; rfl, HB.out.trans (hb.mono HB.out.size)⟩
            · have h9 := Bool.eq_false_iff.2 h9
              go_wp2_with (first | (with_reducible refine wpList_bytes (o := ⟨some 17, _, _, _, _, _⟩) rfl (.tmp 16) rfl ⟨#[46, 46, 46]⟩ rfl (by decide) ?_; intro B d W1 hd hC hb1) | (go_at_call 70; refine (CutPrefix_calls A B n c _ d xs (bytesOf ⟨#[46, 46, 46]⟩) W1 (Kd.C_below HX.out (HB.out.trans (hb1.mono HB.out.size))) hC bx (bytesOf_byt _) hc).mono ?_; rintro e w2 ⟨A', c', rfl, h1, h2, h3⟩; obtain ⟨ad, rfl, hcell⟩ := C_head h2 hpos) | (go_at_call 33; refine (Clear_calls _ _ c' (cutPre xs (bytesOf ⟨#[46, 46, 46]⟩)) w2 h2 h1 hcl).mono ?_; rw [HCR.out]; rintro e w3 ⟨rfl, h4⟩; have hcell3 := pw_cell_below h4 hcell))
              have hb := below_step (below_step hb1 h3) h4
              go_roundw
              case rel => exact ⟨3, by omega, rfl, ⟨(hb.block _ (blk_lt HM.out)).trans HM.out⟩, ⟨HB.out.trans (hb.mono HB.out.size)⟩, ⟨gone_2 HG.out (by rw [← HE.out]; exact tailM_0 HCR.out h32 h9)⟩⟩
              case measure => simp [intOf]
    · go_wp2
      go_ret
      exact ⟨by rw [mark_none HG.out]; rfl, HB.out⟩
end Go.Proofs.YtllgfccckcgekaaDoor
