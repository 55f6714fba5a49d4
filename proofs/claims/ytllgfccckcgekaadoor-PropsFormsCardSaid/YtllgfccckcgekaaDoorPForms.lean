/- The walk of PropsForms: it answers true. No condition. -/
import Derived.Test.YtllgfccckcgekaaDoorTake
import Derived.Test.YtllgfccckcgekaaDoorMapLit
namespace Go.Proofs.YtllgfccckcgekaaDoor
set_option maxRecDepth 100000
set_option maxHeartbeats 4000000
open Go.RowKit Go.Proofs.YtllgfccckcgekaaDoorW.PrintWords Go.Proofs.YtllgfccckcgekaaDoorW.PrintLast Go.Proofs.YtllgfccckcgekaaDoorW.PrintMore

theorem str_of {s : ByteArray} {xs : List Int} (h : bytesOf s = xs) : s = strOfNums xs := by rw [← h, strOfNums_bytesOf]
theorem wakes10_calls (w : World) : Calls Tryd.prog 42 #[] w fun e w' => e = .returned (.bool true) ∧ Below w.heap.size w w' := by
  have hm : takeF [38, 97, 32, 33, 33, 115, 116, 114, 32, 120] = some ([33, 33, 115, 116, 114], [97], 8) := by decide
  have hk := Take_calls (some ⟨w.heap.size, 0, none⟩) 10 10 [38, 97, 32, 33, 33, 115, 116, 114, 32, 120] _ (C_const w [38, 97, 32, 33, 33, 115, 116, 114, 32, 120] (10, 11) (by decide)) (by intro x hx; simp at hx; omega) (Nat.le_refl _) (by decide)
  unfold TakePost at hk
  rw [hm] at hk
  have HK := Aside0.mk hk
  clear hm hk
  have kc := fun (w : World) (C : Array Value) (n c : Nat) => Lib.run_convert_bytes_const (P := Tryd.prog) w 36 5 C n c Tryd.underlying36 Tryd.underlying5
  go_enter Tryd.func42, Tryd.ntmps42
  go_wp2_with (go_at_call 41; refine HK.out.mono ?_; rintro e w2 ⟨h3, tb, ab, rfl, ht, ha⟩; obtain rfl := str_of ht; obtain rfl := str_of ha; have e1 : strOfNums [33, 33, 115, 116, 114] = ⟨#[33, 33, 115, 116, 114]⟩ := rfl; have e2 : strOfNums [97] = ⟨#[97]⟩ := rfl; rw [e1, e2])
  go_ret
  exact ⟨rfl, below_alloc ((below_alloc (Below.refl _ _) _).trans (h3.mono (by simp))) _⟩

def letters8 : List Int := [97, 98, 99, 100, 101, 102, 103, 104]
def abc8 : ByteArray := ⟨#[97, 98, 99, 100, 101, 102, 103, 104]⟩
/-- One of the eight letters. -/
theorem letter_cut (j : Nat) (h : j < 8) : ∃ X la : ByteArray, (∀ W : World, (Instr.slice 9 (.string ⟨#[97, 98, 99, 100, 101, 102, 103, 104]⟩) (some (.int .i64 (j : Int))) none none).run Tryd.prog W = .ok (.string X) W) ∧
    (∀ W : World, (Instr.slice 9 (.string X) none (some (.int .i64 1)) none).run Tryd.prog W = .ok (.string la) W) ∧ ∃ c ∈ letters8, bytesOf la = [c] := by
  have hc : j = 0 ∨ j = 1 ∨ j = 2 ∨ j = 3 ∨ j = 4 ∨ j = 5 ∨ j = 6 ∨ j = 7 := by omega
  rcases hc with rfl | rfl | rfl | rfl | rfl | rfl | rfl | rfl
  · exact ⟨⟨#[97, 98, 99, 100, 101, 102, 103, 104]⟩, ⟨#[97]⟩, fun W => rfl, fun W => rfl, 97, by decide, rfl⟩
  · exact ⟨⟨#[98, 99, 100, 101, 102, 103, 104]⟩, ⟨#[98]⟩, fun W => rfl, fun W => rfl, 98, by decide, rfl⟩
  · exact ⟨⟨#[99, 100, 101, 102, 103, 104]⟩, ⟨#[99]⟩, fun W => rfl, fun W => rfl, 99, by decide, rfl⟩
  · exact ⟨⟨#[100, 101, 102, 103, 104]⟩, ⟨#[100]⟩, fun W => rfl, fun W => rfl, 100, by decide, rfl⟩
  · exact ⟨⟨#[101, 102, 103, 104]⟩, ⟨#[101]⟩, fun W => rfl, fun W => rfl, 101, by decide, rfl⟩
  · exact ⟨⟨#[102, 103, 104]⟩, ⟨#[102]⟩, fun W => rfl, fun W => rfl, 102, by decide, rfl⟩
  · exact ⟨⟨#[103, 104]⟩, ⟨#[103]⟩, fun W => rfl, fun W => rfl, 103, by decide, rfl⟩
  · exact ⟨⟨#[104]⟩, ⟨#[104]⟩, fun W => rfl, fun W => rfl, 104, by decide, rfl⟩

/-- The fourteen texts that are no props. -/
def nots14 (a : ByteArray) : List ByteArray := [⟨#[38]⟩, ⟨#[38, 32]⟩ ++ a, ⟨#[38]⟩ ++ a ++ ⟨#[33]⟩, ⟨#[38]⟩ ++ a ++ ⟨#[38, 98]⟩, ⟨#[38]⟩ ++ a ++ ⟨#[32, 38, 98]⟩, ⟨#[33, 120, 32, 33, 121]⟩, ⟨#[33, 33]⟩, ⟨#[33, 33, 32, 120]⟩, ⟨#[33]⟩ ++ a ++ ⟨#[33]⟩, ⟨#[33, 120, 33, 121]⟩, ⟨#[33, 60]⟩ ++ a ++ ⟨#[62]⟩, ⟨#[38]⟩ ++ a ++ ⟨#[44]⟩, ⟨#[33, 120, 93]⟩, ⟨#[38, 195, 169]⟩]
theorem bz_lit (l : List UInt8) : bytesOf ⟨l.toArray⟩ = l.map fun b => (b.toNat : Int) := by simp [bytesOf]
theorem nots14_no {a : ByteArray} {c : Int} (hc : c ∈ letters8) (ha : bytesOf a = [c]) : ∀ p ∈ nots14 a, takeF (bytesOf p) = none ∧ p.size ≤ 5 := by
  intro p hp
  rw [← bytesOf_length]
  simp only [nots14, List.mem_cons, List.not_mem_nil, or_false] at hp
  rcases hp with rfl | rfl | rfl | rfl | rfl | rfl | rfl | rfl | rfl | rfl | rfl | rfl | rfl | rfl <;> first | (simp only [bytesOf_append, ha]; clear ha; revert c; decide) | decide

section
variable {t B last : Nat} {E : List (ByteArray × Int)} {ev : Operand → Value}
theorem run_add {o : Oper} {x y : Operand} {u : TypeId} {s r : ByteArray} (hop : o.op = .binOp .add 9 x y u) (hx : ev x = .string s) (hy : ev y = .string r) (hz : s.size + r.size ≤ 9223372036854775807) (w : World) : (execOp ev o).run Tryd.prog w = .ok (.value (.string (s ++ r))) w := by
  have hz' : ¬ (9223372036854775807 < s.size + r.size) := by omega
  simp [execOp, hop, hx, hy, go_sem, hz']
theorem AllSteps.cons {P : Program} {i : Nat} {o : Oper} {os : List Oper} {v : Value} {vs : List Value} (h : StepOk P t B last E ev i o v) (hs : AllSteps P t B last E ev (i + 1) os vs) : AllSteps P t B last E ev i (o :: os) (v :: vs) := ⟨h, hs⟩
theorem AllSteps.nil {P : Program} {i : Nat} : AllSteps P t B last E ev i [] [] := trivial
theorem step_mk {o : Oper} (h : o.op = .makeMap t none) : StepOk Tryd.prog t B last E ev 0 o (.map (some B)) := by
  unfold StepOk
  rw [if_pos rfl]
  exact ⟨h, rfl⟩
theorem step_pure {i : Nat} {o : Oper} {v : Value} (h0 : i ≠ 0) (hl : i ≠ last) (h : ∀ w, (execOp ev o).run Tryd.prog w = .ok (.value v) w) : StepOk Tryd.prog t B last E ev i o v := by
  unfold StepOk
  rw [if_neg h0, if_neg hl]
  exact .inl h
theorem step_ins {i : Nat} {o : Oper} {v : Value} {m x y : Operand} {key : ByteArray} {val : Int} (h0 : i ≠ 0) (hl : i ≠ last) (hd : o.dst = none) (hop : o.op = .insert t m x y) (hm : ev m = .map (some B)) (hx : ev x = .string key) (hy : ev y = .int .i64 val)
    (hc : o.after.any (fun c => c.on == 0 && (match c.ground with | .data => true | _ => false)) = true) (hE : (key, val) ∈ E) (hk : key.size ≤ maxLen) (hw : (Lit.int .i64 val).wf = true) : StepOk Tryd.prog t B last E ev i o v := by
  unfold StepOk
  rw [if_neg h0, if_neg hl]
  obtain ⟨c, hc1, hc2⟩ := Array.any_eq_true'.1 hc
  simp only [Bool.and_eq_true, beq_iff_eq] at hc2
  refine .inr ⟨hd, ⟨c, hc1, hc2.1, ?_⟩, m, x, y, key, val, hop, hm, hx, hy, hE, hk, hw⟩
  revert hc2
  cases c.ground <;> simp
theorem step_rng {i : Nat} {o : Oper} {x : Operand} (h0 : i ≠ 0) (hl : i = last) (hop : o.op = .range t x) (hx : ev x = .map (some B)) (hc : o.after.any (fun c => c.on + 1 == last && (match c.ground with | .data => true | _ => false)) = true) : StepOk Tryd.prog t B last E ev i o (.pointer (some ⟨B + 1, 0, none⟩)) := by
  unfold StepOk
  rw [if_neg h0, if_pos hl]
  obtain ⟨c, hc1, hc2⟩ := Array.any_eq_true'.1 hc
  simp only [Bool.and_eq_true, beq_iff_eq] at hc2
  refine ⟨⟨x, hop, hx⟩, rfl, c, hc1, hc2.1, ?_⟩
  revert hc2
  cases c.ground <;> simp
end
/-- The nine entries. -/
def lits9 (a : ByteArray) : List (ByteArray × Int) := [(⟨#[]⟩, 0), (a, 0), (⟨#[32, 38]⟩ ++ a, 0), (⟨#[38]⟩ ++ a, 2), (⟨#[33]⟩, 1), (⟨#[33, 32]⟩ ++ a, 1), (⟨#[33, 33]⟩ ++ a ++ ⟨#[32, 38]⟩ ++ a ++ ⟨#[32, 32]⟩ ++ a, 6), (⟨#[38]⟩ ++ a ++ ⟨#[32, 32, 32]⟩, 2), (⟨#[42]⟩ ++ a, 0)]
theorem lits9_ok {a : ByteArray} {c : Int} (hc : c ∈ letters8) (ha : bytesOf a = [c]) : ∀ p ∈ lits9 a, (takeF (bytesOf p.1)).map (fun r => (r.2.2 : Int)) = some p.2 ∧ p.1.size ≤ 20 := by
  intro p hp
  rw [← bytesOf_length]
  simp only [lits9, List.mem_cons, List.not_mem_nil, or_false] at hp
  rcases hp with rfl | rfl | rfl | rfl | rfl | rfl | rfl | rfl | rfl <;> first | (simp only [bytesOf_append, ha]; clear ha; revert c; decide) | decide
theorem lits9_at {a : ByteArray} {c : Int} (hc : c ∈ letters8) (ha : bytesOf a = [c]) (s : ByteArray) (v : Int) (h : (s, v) ∈ lits9 a) : ∃ t' a' n, takeF (bytesOf s) = some (t', a', n) ∧ v = (n : Int) ∧ s.size ≤ 20 := by
  obtain ⟨h1, h2⟩ := lits9_ok hc ha _ h
  cases ht : takeF (bytesOf s) with
  | none => simp [ht] at h1
  | some r =>
    simp [ht] at h1
    exact ⟨_, _, _, rfl, h1.symm, h2⟩
def lits9v (B : Nat) (a : ByteArray) : List Value :=
  [.map (some B), undef, .string a, undef, .string a, .string (⟨#[32, 38]⟩ ++ a), undef, .string a, .string (⟨#[38]⟩ ++ a), undef, undef, .string a, .string (⟨#[33, 32]⟩ ++ a), undef,
    .string a, .string (⟨#[33, 33]⟩ ++ a), .string (⟨#[33, 33]⟩ ++ a ++ ⟨#[32, 38]⟩), .string a, .string (⟨#[33, 33]⟩ ++ a ++ ⟨#[32, 38]⟩ ++ a), .string (⟨#[33, 33]⟩ ++ a ++ ⟨#[32, 38]⟩ ++ a ++ ⟨#[32, 32]⟩), .string a, .string (⟨#[33, 33]⟩ ++ a ++ ⟨#[32, 38]⟩ ++ a ++ ⟨#[32, 32]⟩ ++ a), undef,
    .string a, .string (⟨#[38]⟩ ++ a), .string (⟨#[38]⟩ ++ a ++ ⟨#[32, 32, 32]⟩), undef, .string a, .string (⟨#[42]⟩ ++ a), undef, .map (some B), .pointer (some ⟨B + 1, 0, none⟩)]
theorem walk_propsForms (a0 : Int) (hv : -9223372036854775808 ≤ a0 ∧ a0 ≤ 9223372036854775807) (w : World) :
    Calls Tryd.prog 7 #[.int .i64 a0] w fun e w' => e = .returned (.bool true) ∧ Below w.heap.size w w' := by
  obtain ⟨j, hj⟩ := Int.eq_ofNat_of_zero_le (Int.emod_nonneg a0 (show (8 : Int) ≠ 0 by omega))
  have hj8 : j < 8 := by have := Int.emod_lt_of_pos a0 (show (0 : Int) < 8 by omega); omega
  obtain ⟨X, la, hX, hla, c, hc, hlc⟩ := letter_cut j hj8
  have HN := Aside0.mk (nots14_no hc hlc)
  have HJ := Aside0.mk hj
  have HC := Aside0.mk hc
  have HLC := Aside0.mk hlc
  have HV := Aside0.mk hv
  have hls : la.size = 1 := by rw [← bytesOf_length, hlc]; rfl
  clear hj hc hlc hv
  go_enter Tryd.func7, Tryd.ntmps7
  go_wp2_with (go_at_call 23; refine (Within_calls a0 8 _ (by omega) (by omega) HV.out).mono ?_; rw [HJ.out]; rintro e w' ⟨rfl, rfl⟩)
  have hblk := blk_new w (.cells ((nots14 la).map Value.string).toArray 9)
  go_loopw [40] (fun i wr => ∃ k : Nat, k ≤ 14 ∧ i = .int .i64 k ∧ Aside0 (wr.heap[w.heap.size]? = some (.cells ((nots14 la).map Value.string).toArray 9 (0, 0))) ∧ Aside0 (Below w.heap.size w wr)) (fun i _ => 14 - (intOf i).toNat)
  case atStart => exact ⟨0, by omega, rfl, ⟨hblk⟩, ⟨below_alloc (Below.refl _ _) _⟩⟩
  case round =>
    obtain ⟨k, hk, rfl, HM, HB⟩ := hrel
    by_cases hl : k < 14
    · obtain ⟨p, hp⟩ : ∃ p, (nots14 la)[k]? = some p := ⟨_, List.getElem?_eq_getElem (by simpa [nots14] using hl)⟩
      have hnot := HN.out p (List.mem_of_getElem? hp)
      have hcell : wr.cell? ⟨w.heap.size, k, none⟩ = some (.string p) := by
        rw [blk_cell HM.out, List.getElem?_toArray, List.getElem?_map, hp]
        rfl
      have HNO := Aside0.mk hnot.1
      have hps := hnot.2
      clear hnot hblk
      go_wp2_with (first | (with_reducible refine wpList_bytes (o := ⟨some 46, _, _, _, _, _⟩) rfl (.tmp 45) rfl _ rfl (by omega) ?_; intro B d W1 hd hC hb))
      refine (Take_calls B p.size d (bytesOf p) W1 hC (bytesOf_byt p) hd (by omega)).mono ?_
      rintro e W2 ⟨hb2, hp2⟩
      rw [HNO.out] at hp2
      simp only at hp2
      subst hp2
      have hb12 := below_step hb hb2
      go_wp2
      have hb3 : Below wr.heap.size wr (W2.alloc (.cells #[.string ⟨#[]⟩, .string ⟨#[]⟩] 56)) := below_step hb12 (below_alloc (Below.refl _ _) _)
      refine ⟨⟨k + 1, by omega, by go_num, ⟨(hb3.block _ (blk_lt HM.out)).trans HM.out⟩, ⟨HB.out.trans (hb3.mono HB.out.size)⟩⟩, by simp [intOf]; omega⟩
    · obtain rfl : k = 14 := by omega
      obtain ⟨wm, rfl⟩ : ∃ wm, wm = wr := ⟨_, rfl⟩
      go_wp2_with fail
      refine wp_region_any rfl ?_
      refine wpAny_lit (P := Tryd.prog) _ ?fin (lits9v wm.heap.size la) _ (lits9 la) 59 9 3 (Maps.string_keyed Tryd.underlying9) Tryd.underlying59 Tryd.underlying3 Tryd.underlying9 (by decide +kernel) (by decide +kernel) ?hfin (by decide) ?steps ?hend
      case hfin =>
        simp only [doneAct, putAll, lits9v, List.map_cons, List.map_nil, List.zip_cons_cons, List.zip_nil_left, List.foldl_cons, List.foldl_nil, Act.put, List.setIfInBounds_toArray, List.set_cons_succ, List.set_cons_zero]
        exact rfl
      case steps =>
        refine AllSteps.cons (step_mk rfl) ?_
        repeat refine AllSteps.cons (by
          first
          | exact step_pure (by decide) (by decide) (fun w => rfl)
          | exact step_pure (by decide) (by decide) (run_add rfl rfl rfl (by simp only [ByteArray.size_append', ByteArray.size_mk', hls, List.size_toArray, List.length_cons, List.length_nil] <;> omega))
          | exact step_ins (by decide) (by decide) rfl rfl rfl rfl rfl (by decide +kernel) (by simp [lits9]) (by simp only [ByteArray.size_append', ByteArray.size_mk', hls, List.size_toArray, List.length_cons, List.length_nil, maxLen] <;> omega) rfl
          | exact step_rng (by decide) rfl rfl rfl (by decide +kernel)) ?_
        exact AllSteps.nil
      case hend =>
        intro w3 n D cnt hr hS hb
        have hlit : LitLoop Tryd.prog 9 3 wm.heap.size (wm.heap.size + 1) (lits9 la) wm w3 := LitLoop.start hr hS ⟨hb.os, hb.tape, hb.output, hb.size, hb.block⟩
        have HL0 := Aside0.mk hlit
        clear hr hS hb hlit hblk hk hl
        go_wp2_with fail
        go_loopw [9] (fun _ wl => Aside0 (LitLoop Tryd.prog 9 3 wm.heap.size (wm.heap.size + 1) (lits9 la) wm wl)) (fun _ wl => wl.rangeLeft wm.heap.size (wm.heap.size + 1))
        case atStart => exact HL0
        case round =>
          go_wp2_with (first
            | (at_next; refine wpList_next_lit _ rfl _ rfl 9 3 (Maps.string_keyed Tryd.underlying9) Tryd.underlying9 Tryd.underlying3 wm.heap.size (wm.heap.size + 1) (lits9 la) wm (by omega) rfl hrel.out ?_ ?_))
          · refine (wakes10_calls wr).mono ?_
            rintro e w' ⟨rfl, hbw⟩
            go_wp2
            go_ret
            obtain ⟨_, _, _, _, _, _, _, hbm⟩ := hrel.out
            exact ⟨rfl, below_step (HB.out.trans (hbm.mono HB.out.size)) hbw⟩
          · intro s c w1 hE hL1 hlt hen
            obtain ⟨t', a', n', ht, rfl, hss⟩ := lits9_at HC.out HLC.out s c hE
            have HT := Aside0.mk ht
            have HL1 := Aside0.mk hL1
            have HLT := Aside0.mk hlt
            clear ht hL1 hlt hE hrel HL0
            go_wp2_with (first | (with_reducible refine wpList_bytes (o := ⟨some 92, _, _, _, _, _⟩) rfl (.tmp 91) rfl _ rfl (by omega) ?_; intro B d W1 hd hC hb))
            refine (Take_calls B s.size d (bytesOf s) W1 hC (bytesOf_byt s) hd (by omega)).mono ?_
            rintro e W2 ⟨hb2, hp2⟩
            rw [HT.out] at hp2
            obtain ⟨tb, ab, rfl, -, -⟩ := hp2
            have hb12 := below_step hb hb2
            go_wp2_with fail
            have hb3 : Below w1.heap.size w1 (W2.alloc (.cells #[.string tb, .string ab] 56)) := below_step hb12 (below_alloc (Below.refl _ _) _)
            obtain ⟨hL2, hLq⟩ := HL1.out.below hb3
            go_roundw
            case rel => (repeat apply Exists.intro); refine ⟨⟨hL2⟩, rfl⟩
            case measure => rw [hLq]; exact HLT.out
end Go.Proofs.YtllgfccckcgekaaDoor
