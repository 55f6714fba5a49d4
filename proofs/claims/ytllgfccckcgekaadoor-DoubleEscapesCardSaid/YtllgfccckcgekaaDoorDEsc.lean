/- The walk of DoubleEscapes: it answers true. Condition: utf8's two tables hold what their text lays. -/
import Derived.Test.YtllgfccckcgekaaDoorPutC
import Derived.Test.YtllgfccckcgekaaDoorMapLit
import Derived.Test.YtllgfccckcgekaaDoorRefA
import Derived.Maps.OwnOps
import Derived.Maps.OwnSet
import Derived.Maps.StringElems
namespace Go.Proofs.YtllgfccckcgekaaDoor
set_option maxRecDepth 100000
set_option maxHeartbeats 8000000
open Go.RowKit Go.Maps Go.Proofs.YtllgfccckcgekaaDoorW.PrintWords Go.Proofs.YtllgfccckcgekaaDoorW.PrintLast Go.Proofs.YtllgfccckcgekaaDoorW.PrintMore

theorem wakes06_calls (w : World) (hT : Lib.Utf8Tabs 1 2 w) : Calls Tryd.prog 53 #[] w fun e w' => e = .returned (.bool true) ∧ Below w.heap.size w w' := by
  have h := Put_calls ⟨#[97, 10]⟩ w (by decide) hT
  have hp : putRet (putF ⟨#[97, 10]⟩) = .tuple #[.string ⟨#[34, 97, 92, 110, 34]⟩, .bool true] := by
    have : putF ⟨#[97, 10]⟩ = some [34, 97, 92, 110, 34] := by decide +kernel
    rw [this]
    rfl
  rw [hp] at h
  have H := Aside0.mk h
  clear h hp hT
  go_enter Tryd.func53, Tryd.ntmps53
  go_wp2_with (go_at_call 94; refine H.out.mono ?_; rintro e w' ⟨rfl, hb⟩)
  go_ret
  exact ⟨rfl, hb⟩
def escE : List (Int × List UInt8) := [(48, [0]), (97, [7]), (98, [8]), (116, [9]), (110, [10]), (118, [11]), (102, [12]), (114, [13]), (101, [27]), (34, [34]), (47, [47]), (92, [92]), (32, [32]), (78, [194, 133]), (95, [194, 160]), (76, [226, 128, 168]), (80, [226, 128, 169])]
def putE (D : DataW Unit) (p : Int × List UInt8) : DataW Unit := D.put (.int .u8 p.1) (.lit (.string p.2))
def escD : DataW Unit := escE.foldl putE (.map [])
def wantF (c : Int) : Option (List UInt8) := (escE.find? (fun p => p.1 == c)).map (·.2)
theorem esc_take : ∀ c : Fin 256, takeD [34, 92, (c.val : Int), 34] = (wantF (c.val : Int)).map (fun l => (l.map fun b => (b.toNat : Int), 4)) := by decide +kernel
theorem esc_loop : ∀ p ∈ escE, takeD [34, 120, 92, p.1, 121, 34] = some (([120] ++ p.2 ++ [121]).map (fun b : UInt8 => (b.toNat : Int)), 6) ∧ 0 ≤ p.1 ∧ p.1 ≤ 255 ∧ p.2.length ≤ 3 := by decide +kernel
structure LitU (B : Nat) (w0 : World) (D : DataW Unit) (n : Nat) (w : World) : Prop where
  small : n ≤ 100
  own : w.ownsMap Tryd.prog 5 (plainElem Tryd.prog 9) B n D
  below : Below B w0 w
theorem ins_step {ops : Array Oper} {rest : List Oper} {o : Oper} {a : Act} {Q : Exit → Act → World → Prop} {w w0 : World} {B n : Nat} {D : DataW Unit} {m x y : Operand} {k : Int} {s : ByteArray}
    (hg : o.guard = none) (hd : o.dst = none) (hop : o.op = .insert 73 m x y) (hm : a.eval m = .map (some B)) (hx : a.eval x = .int .u8 k) (hy : a.eval y = .string s) (hJ : LitU B w0 D n w) (hk : (Lit.int .u8 k).wf = true) (hs : s.size ≤ 3) (hn : n ≤ 99) (hBs : B ≤ w.heap.size)
    (h : ∀ w', LitU B w0 (putE D (k, s.data.toList)) (n + 1) w' → wpList Tryd.prog ops Q rest a w') : wpList Tryd.prog ops Q (o :: rest) a w := by
  refine wpList_plain hg fun K' hK' => ?_
  obtain ⟨w', hrun, h1, h2⟩ := hJ.own.store (Maps.int_keyed Tryd.underlying5) Tryd.underlying73 (by unfold maxLen; omega) (Maps.keyOf_int_mk Tryd.underlying5 hk) (plainElem_string Tryd.underlying9 (s := s) (by unfold maxLen; omega))
  unfold Oper.wp
  simp [execOp, hop, hm, hx, hy, hrun, Result.andThen]
  have e : a.put o.dst undef = a := by rw [hd]; rfl
  exact hK' (a.put o.dst undef) w' (by rw [e]; exact h w' ⟨by omega, h1, hJ.below.grown h2.grown hBs (fun j hj => by cases hj; exact Nat.le_refl _)⟩)
def litS : DataW Unit → List UInt8
  | .lit (.string l) => l
  | _ => []
theorem esc_has : ∀ c : Fin 256, has escD (.int .u8 (c.val : Int)) = (wantF (c.val : Int)).isSome ∧ litS (escD.atKey (.int .u8 (c.val : Int)) (.lit (.string []))) = (wantF (c.val : Int)).getD [] := by decide +kernel
theorem lookS {v : Value} {d : DataW Unit} {ps : List MemPlace} (h : plainElem Tryd.prog 9 v = some (d, ps)) : ∃ S, v = .string S ∧ S.data.toList = litS d := by
  obtain ⟨S, rfl, h2, _⟩ := plainElem_string_inv Tryd.underlying9 h
  cases h2
  exact ⟨S, rfl, rfl⟩
theorem wantF_mem {c : Int} {l : List UInt8} (h : wantF c = some l) : (c, l) ∈ escE := by
  unfold wantF at h
  rw [Option.map_eq_some_iff] at h
  obtain ⟨p, hp, rfl⟩ := h
  have h1 := List.find?_some hp
  have h2 := List.mem_of_find?_eq_some hp
  simp only [beq_iff_eq] at h1
  rw [← h1]
  exact h2
/-- The range over the map, on its way. -/
def EscLoop (B r : Nat) (w0 w : World) : Prop := ∃ n left cnt, w.ranges Tryd.prog 5 (plainElem Tryd.prog 9) B r n escD left cnt ∧ (∀ kl, left kl = true → has escD kl = true) ∧ Below B w0 w
theorem EscLoop.below {B r : Nat} {w0 w w' : World} (h : EscLoop B r w0 w) (hb : Below w.heap.size w w') : EscLoop B r w0 w' ∧ w'.rangeLeft B r = w.rangeLeft B r := by
  obtain ⟨n, left, cnt, h1, h3, h4⟩ := h
  have hg : w.grownBy w' none := ⟨hb.os, hb.tape, hb.output, hb.size, fun i hi _ => hb.block i hi⟩
  have h1' := h1.kept hg (by simp) (by simp)
  exact ⟨⟨n, left, cnt, h1', h3, h4.trans (hb.mono (Nat.le_of_lt h1.owns.lt))⟩, by rw [h1.left_eq, h1'.left_eq]⟩
theorem next_esc (w : World) {ops : Array Oper} {rest : List Oper} {o : Oper} {a : Act} {Q : Exit → Act → World → Prop} (hg : o.guard = none) (it : Operand) (hop : o.op = .next it false)
    (B r : Nat) (w0 : World) (hBr : B ≤ r) (hit : a.eval it = .pointer (some ⟨r, 0, none⟩)) (h : EscLoop B r w0 w)
    (hDone : wpList Tryd.prog ops Q rest (a.put o.dst (.tuple #[.bool false])) w)
    (hMore : ∀ (x : Int) (s : ByteArray) (w' : World), (x, s.data.toList) ∈ escE → EscLoop B r w0 w' → w'.rangeLeft B r < w.rangeLeft B r → (Instr.entry (.pointer (some ⟨r, 0, none⟩))).run Tryd.prog w' = .ok (.tuple #[.int .u8 x, .string s]) w' →
      wpList Tryd.prog ops Q rest (a.put o.dst (.tuple #[.bool true, .int .u8 x, .string s])) w') :
    wpList Tryd.prog ops Q (o :: rest) a w := by
  obtain ⟨n, left, cnt, h1, h3, h4⟩ := h
  refine wpList_next_ranges_is w hg it hop 5 9 .u8 (Maps.int_keyed Tryd.underlying5) Tryd.underlying5 Tryd.underlying9 B r n escD left cnt hit h1 (fun _ _ => hDone) ?_
  intro x s w' cnt' hwf hsz hlk hat hrg hlt hgr hhs hen
  have hx : 0 ≤ x ∧ x ≤ 255 := by
    simp [Lit.wf] at hwf
    exact ⟨hwf.1, hwf.2⟩
  have hE := byte_fin (P := fun c => has escD (.int .u8 c) = (wantF c).isSome ∧ litS (escD.atKey (.int .u8 c) (.lit (.string []))) = (wantF c).getD []) esc_has x hx.1 hx.2
  have hh := h3 _ hlk
  rw [hE.1] at hh
  obtain ⟨l, hl⟩ := Option.isSome_iff_exists.1 hh
  have h5 := hE.2
  rw [hat, hl] at h5
  have h6 : s.data.toList = l := h5
  refine hMore x s w' (by rw [h6]; exact wantF_mem hl) ⟨n, _, cnt', hrg, fun kl hkl => ?_, h4.grown hgr (by have := h1.owns.lt; omega) (fun j hj => by cases hj; exact hBr)⟩ (by rw [h1.left_eq, hrg.left_eq]; exact hlt) hen
  simp only [Bool.and_eq_true] at hkl
  exact h3 kl hkl.1
theorem str_back (S : ByteArray) : strOfNums (S.data.toList.map fun b => (b.toNat : Int)) = S := strOfNums_bytesOf S
theorem take_lit (xs : List Int) (w : World) (hb : Byt xs) (hm : xs.length ≤ 100) : Calls Tryd.prog 52 #[.slice (some ⟨w.heap.size, 0, none⟩) xs.length xs.length] (w.alloc (.cells (nums .u8 xs).toArray 5)) fun e w' => e = .returned (takeRet (takeD xs)) ∧ Below w.heap.size w w' := by
  obtain ⟨A, c, he, hle, hC⟩ := Kd.R_reads (R8_lit w w.heap.size xs (Nat.le_refl _) hm)
  cases he
  refine (TakeD_calls _ _ _ _ _ hC hb (Nat.le_refl _) (by omega)).mono ?_
  rintro e w' ⟨rfl, hb⟩
  exact ⟨rfl, below_step (below_alloc (Below.refl _ _) _) hb⟩
theorem str_of {S : ByteArray} {x l : List UInt8} (h : S.data.toList = x) (h2 : x = (some l).getD []) : strOfNums (l.map fun b => (b.toNat : Int)) = S := by
  rw [show l = S.data.toList by rw [h, h2]; rfl]
  exact str_back S
theorem own_below {w w' : World} {B n : Nat} {D : DataW Unit} (h : w.ownsMap Tryd.prog 5 (plainElem Tryd.prog 9) B n D) (hb : Below w.heap.size w w') : w'.ownsMap Tryd.prog 5 (plainElem Tryd.prog 9) B n D :=
  h.kept (row := none) ⟨hb.os, hb.tape, hb.output, hb.size, fun i hi _ => hb.block i hi⟩ (by simp)
theorem loop_start {w wL w1 w2 : World} {n cnt : Nat} (hL : Below w.heap.size w wL) (h1 : Below wL.heap.size wL w1) (hr : w2.ranges Tryd.prog 5 (plainElem Tryd.prog 9) w.heap.size w1.heap.size n escD (has escD) cnt) (hg : w1.grownBy w2 none) : EscLoop w.heap.size w1.heap.size w w2 ∧ w.heap.size ≤ w1.heap.size :=
  ⟨⟨n, _, cnt, hr, fun _ h => h, (below_step hL h1).grown hg (below_step hL h1).size (by simp)⟩, (below_step hL h1).size⟩
theorem esc_low {B r : Nat} {w0 w : World} (h : EscLoop B r w0 w) : Below B w0 w := by
  obtain ⟨_, _, _, _, _, h4⟩ := h
  exact h4
theorem str_mid (s : ByteArray) : strOfNums (([120] ++ s.data.toList ++ [121]).map (fun b : UInt8 => (b.toNat : Int))) = ⟨#[120]⟩ ++ s ++ ⟨#[121]⟩ := by
  rw [List.map_append, List.map_append, strOfNums_app, strOfNums_app, str_back]
  rfl
theorem walk_doubleEscapes (c : Int) (hc : 0 ≤ c ∧ c ≤ 255) (w : World) (hT : Lib.Utf8Tabs 1 2 w) :
    Calls Tryd.prog 11 #[.int .u8 c] w fun e w' => e = .returned (.bool true) ∧ Below w.heap.size w w' := by
  have HT := Aside0.mk hT
  clear hT
  have HJ0 : LitU w.heap.size w (.map []) 0 (w.alloc (.map #[] 0)) := ⟨by omega, World.ownsMap_made w Tryd.prog 5 _, below_alloc (Below.refl _ _) _⟩
  have hmk : (Instr.makeMap 73 none).run Tryd.prog w = .ok (.map (some w.heap.size)) (w.alloc (.map #[] 0)) := by simp [run_makeMap]
  have hE := byte_fin (P := fun c => has escD (.int .u8 c) = (wantF c).isSome ∧ litS (escD.atKey (.int .u8 c) (.lit (.string []))) = (wantF c).getD []) esc_has c hc.1 hc.2
  have hTk := byte_fin (P := fun c => takeD [34, 92, c, 34] = (wantF c).map (fun l => (l.map fun b => (b.toNat : Int), 4))) esc_take c hc.1 hc.2
  have hwf : (Lit.int .u8 c).wf = true := by simp [Lit.wf]; exact ⟨hc.1, hc.2⟩
  have HWF := Aside0.mk hwf
  have hcall := fun w => take_lit [34, 92, c, 34] w (by intro y hy; simp at hy; omega) (by simp)
  rw [hTk] at hcall
  clear hwf hTk
  obtain ⟨hE1, hE2⟩ := hE
  cases hw : wantF c with
  | none =>
    rw [hw] at hE1 hE2 hcall
    have HE2 := Aside0.mk hE2
    have HC := Aside0.mk hcall
    clear hE2 hcall hw
    simp only [Option.map_none, takeRet, Option.isSome_none] at HC hE1
    go_enter Tryd.func11, Tryd.ntmps11
    go_wp2_with (first
      | (refine ins_step rfl rfl rfl rfl rfl rfl (by assumption) rfl (by decide) (by omega) (Nat.le_of_lt (World.ownsMap.lt (LitU.own (by assumption)))) ?_; intro _ _)
      | (at_lookup; have HL := Aside0.mk (show LitU w.heap.size w escD 17 _ by assumption); refine wpList_lookup_own_ok _ rfl _ _ 73 rfl 5 9 (Maps.int_keyed Tryd.underlying5) Tryd.underlying73 (plainElem Tryd.prog 9) (Tryd.zeroValue9 _) (.lit (.string [])) [] (plainElem_string (s := ⟨#[]⟩) Tryd.underlying9 (by decide)) w.heap.size 17 escD rfl HL.out.own _ (.int .u8 c) rfl (Maps.keyOf_int_mk Tryd.underlying5 HWF.out) ?_; intro v ps hv; obtain ⟨S, rfl, hS⟩ := lookS hv; have HS := Aside0.mk hS; clear hv hS)
      | (go_at_call 52; refine (HC.out _).mono ?_; rintro e w1 ⟨rfl, hb1⟩; have HB1 := Aside0.mk hb1; clear hb1)
      | (at_range; refine wpList_range_own _ rfl _ 73 rfl 5 9 (Maps.int_keyed Tryd.underlying5) Tryd.underlying73 (plainElem Tryd.prog 9) w.heap.size 17 escD rfl (own_below HL.out.own HB1.out) ?_; intro w2 hrg hgr hsz2; have HLOOP := Aside0.mk (loop_start HL.out.below HB1.out hrg hgr); clear hrg hgr))
    simp only [Act.put, List.setIfInBounds_toArray, List.set_cons_succ, List.set_cons_zero]
    go_loopw [9, 10, 11, 12, 13] (fun _ _ _ _ _ wl => Aside0 (EscLoop w.heap.size w1.heap.size w wl)) (fun _ _ _ _ _ wl => wl.rangeLeft w.heap.size w1.heap.size)
    case atStart => exact ⟨HLOOP.out.1⟩
    case round =>
      have hBr := HLOOP.out.2
      go_wp2_with (at_next; refine next_esc _ rfl _ rfl w.heap.size w1.heap.size w hBr rfl hrel.out ?_ ?_)
      · refine (wakes06_calls wr (Go.Proofs.Utf8Tabs_below HT.out (esc_low hrel.out))).mono ?_
        rintro e w' ⟨rfl, hbw⟩
        go_wp2
        go_ret
        exact ⟨rfl, below_step (esc_low hrel.out) hbw⟩
      · intro x s w3 hE hL1 hlt hen
        have hx := esc_loop _ hE
        simp only at hx
        obtain ⟨hx1, hx2, hx3, hx4⟩ := hx
        have hcall := take_lit [34, 120, 92, x, 121, 34] w3 (by intro y hy; simp at hy; omega) (by simp)
        rw [hx1] at hcall
        simp only [takeRet] at hcall
        rw [str_mid] at hcall
        have HC2 := Aside0.mk hcall
        have HL1 := Aside0.mk hL1
        have HLT := Aside0.mk hlt
        have hsz : s.size ≤ 3 := hx4
        clear hcall hL1 hlt hx1 hx4 hE hrel
        go_wp2_with (go_at_call 52; refine HC2.out.mono ?_; rintro e w4 ⟨rfl, hb4⟩; have HB4 := Aside0.mk hb4; clear hb4)
        go_roundw
        case rel => exact ⟨(HL1.out.below HB4.out).1⟩
        case measure => rw [(HL1.out.below HB4.out).2]; exact HLT.out
  | some l =>
    rw [hw] at hE1 hE2 hcall
    have HE2 := Aside0.mk hE2
    have HC := Aside0.mk hcall
    clear hE2 hcall hw
    simp only [Option.map_some, takeRet, Option.isSome_some] at HC hE1
    go_enter Tryd.func11, Tryd.ntmps11
    go_wp2_with (first
      | (refine ins_step rfl rfl rfl rfl rfl rfl (by assumption) rfl (by decide) (by omega) (Nat.le_of_lt (World.ownsMap.lt (LitU.own (by assumption)))) ?_; intro _ _)
      | (at_lookup; have HL := Aside0.mk (show LitU w.heap.size w escD 17 _ by assumption); refine wpList_lookup_own_ok _ rfl _ _ 73 rfl 5 9 (Maps.int_keyed Tryd.underlying5) Tryd.underlying73 (plainElem Tryd.prog 9) (Tryd.zeroValue9 _) (.lit (.string [])) [] (plainElem_string (s := ⟨#[]⟩) Tryd.underlying9 (by decide)) w.heap.size 17 escD rfl HL.out.own _ (.int .u8 c) rfl (Maps.keyOf_int_mk Tryd.underlying5 HWF.out) ?_; intro v ps hv; obtain ⟨S, rfl, hS⟩ := lookS hv; have HS := Aside0.mk hS; clear hv hS)
      | (go_at_call 52; have hSl := str_of HS.out HE2.out; refine (HC.out _).mono ?_; rw [hSl]; rintro e w1 ⟨rfl, hb1⟩; have HB1 := Aside0.mk hb1; clear hb1 hSl)
      | (at_range; refine wpList_range_own _ rfl _ 73 rfl 5 9 (Maps.int_keyed Tryd.underlying5) Tryd.underlying73 (plainElem Tryd.prog 9) w.heap.size 17 escD rfl (own_below HL.out.own HB1.out) ?_; intro w2 hrg hgr hsz2; have HLOOP := Aside0.mk (loop_start HL.out.below HB1.out hrg hgr); clear hrg hgr))
    simp only [Act.put, List.setIfInBounds_toArray, List.set_cons_succ, List.set_cons_zero]
    go_loopw [9, 10, 11, 12, 13] (fun _ _ _ _ _ wl => Aside0 (EscLoop w.heap.size w1.heap.size w wl)) (fun _ _ _ _ _ wl => wl.rangeLeft w.heap.size w1.heap.size)
    case atStart => exact ⟨HLOOP.out.1⟩
    case round =>
      have hBr := HLOOP.out.2
      go_wp2_with (at_next; refine next_esc _ rfl _ rfl w.heap.size w1.heap.size w hBr rfl hrel.out ?_ ?_)
      · refine (wakes06_calls wr (Go.Proofs.Utf8Tabs_below HT.out (esc_low hrel.out))).mono ?_
        rintro e w' ⟨rfl, hbw⟩
        go_wp2
        go_ret
        exact ⟨rfl, below_step (esc_low hrel.out) hbw⟩
      · intro x s w3 hE hL1 hlt hen
        have hx := esc_loop _ hE
        simp only at hx
        obtain ⟨hx1, hx2, hx3, hx4⟩ := hx
        have hcall := take_lit [34, 120, 92, x, 121, 34] w3 (by intro y hy; simp at hy; omega) (by simp)
        rw [hx1] at hcall
        simp only [takeRet] at hcall
        rw [str_mid] at hcall
        have HC2 := Aside0.mk hcall
        have HL1 := Aside0.mk hL1
        have HLT := Aside0.mk hlt
        have hsz : s.size ≤ 3 := hx4
        clear hcall hL1 hlt hx1 hx4 hE hrel
        go_wp2_with (go_at_call 52; refine HC2.out.mono ?_; rintro e w4 ⟨rfl, hb4⟩; have HB4 := Aside0.mk hb4; clear hb4)
        go_roundw
        case rel => exact ⟨(HL1.out.below HB4.out).1⟩
        case measure => rw [(HL1.out.below HB4.out).2]; exact HLT.out
end Go.Proofs.YtllgfccckcgekaaDoor
