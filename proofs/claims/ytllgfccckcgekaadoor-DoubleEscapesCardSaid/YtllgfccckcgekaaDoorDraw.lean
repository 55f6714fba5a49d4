/- A region that draws its order, whose operations may write: one invariant of the world for all orders. No program in sight. -/
import Derived.Orders
namespace Go.Proofs.YtllgfccckcgekaaDoor
set_option maxRecDepth 100000
open Go

def opOk (ops : Array Oper) (i : Nat) (o : Oper) : Bool :=
  o.guard.isNone && (match o.op with | .select .. => false | _ => true) && o.after.all (fun e => decide (e.on < i)) &&
  (o.op.operands.all fun x => match x with
    | .tmp t => (List.range ops.size).all fun j => match ops[j]? with
      | some p => (match p.dst with | some d => !(d == t) | none => true) || o.after.any fun e => e.on == j && (match e.ground with | .data => true | _ => false)
      | none => true
    | _ => true) &&
  (match o.dst with
    | some d => (List.range ops.size).all fun j => match ops[j]? with
      | some p => j == i || (match p.dst with | some c => !(c == d) | none => true)
      | none => true
    | none => true)
def drawOk (ops : Array Oper) : Bool := (List.range ops.size).all fun i => match ops[i]? with | some o => opOk ops i o | none => true

theorem drawOk_at {ops : Array Oper} (h : drawOk ops = true) {i : Nat} {o : Oper} (hi : ops[i]? = some o) :
    o.guard = none ∧ (∀ cs b, o.op ≠ .select cs b) ∧ (∀ e ∈ o.after, e.on < i) ∧
    (∀ t, Operand.tmp t ∈ o.op.operands → ∀ (j : Nat) (p : Oper), ops[j]? = some p → p.dst = some t → ∃ e ∈ o.after, e.on = j ∧ e.ground = .data) ∧
    (∀ d, o.dst = some d → ∀ (j : Nat) (p : Oper), ops[j]? = some p → p.dst = some d → j = i) := by
  have hlt : i < ops.size := (Array.getElem?_eq_some_iff.1 hi).1
  have h1 := List.all_eq_true.1 h i (List.mem_range.2 hlt)
  simp only [hi, opOk, Bool.and_eq_true] at h1
  obtain ⟨⟨⟨⟨g1, g2⟩, g3⟩, g4⟩, g5⟩ := h1
  refine ⟨by simpa using g1, fun cs b e => by simp [e] at g2, fun e he => by simpa using Array.all_eq_true_iff_forall_mem.1 g3 e he, fun t ht j p hj hp => ?_, fun d hd j p hj hp => ?_⟩
  · have h2 := Array.all_eq_true_iff_forall_mem.1 g4 _ ht
    have h3 := List.all_eq_true.1 h2 j (List.mem_range.2 (Array.getElem?_eq_some_iff.1 hj).1)
    simp only [hj, hp, beq_self_eq_true, Bool.not_true, Bool.false_or] at h3
    obtain ⟨e, he, h4⟩ := Array.any_eq_true'.1 h3
    simp only [Bool.and_eq_true, beq_iff_eq] at h4
    refine ⟨e, he, h4.1, ?_⟩
    revert h4
    cases e.ground <;> simp
  · simp only [hd] at g5
    have h3 := List.all_eq_true.1 g5 j (List.mem_range.2 (Array.getElem?_eq_some_iff.1 hj).1)
    simpa [hj, hp] using h3

def putAll (a : Act) (l : List (Option Tmp × Value)) : Act := l.foldl (fun a p => a.put p.1 p.2) a
theorem put_at (a : Act) (d : Option Tmp) (v : Value) (t : Nat) : (a.put d v).tmps[t]? = if d = some t then (if t < a.tmps.size then some v else none) else a.tmps[t]? := by
  cases d with
  | none => simp [Act.put]
  | some d =>
    simp only [Act.put, Array.getElem?_setIfInBounds, Option.some.injEq]
    by_cases h : d = t
    · subst h; rfl
    · simp [h]
theorem put_size (a : Act) (d : Option Tmp) (v : Value) : (a.put d v).tmps.size = a.tmps.size := by cases d <;> simp [Act.put]
theorem put_def (a : Act) (d : Option Tmp) (v : Value) : (a.put d v).defers = a.defers := by cases d <;> rfl
theorem putAll_size (l : List (Option Tmp × Value)) : ∀ a, (putAll a l).tmps.size = a.tmps.size := by
  induction l with
  | nil => intro a; rfl
  | cons p l ih => intro a; exact (ih _).trans (put_size _ _ _)
theorem putAll_def (l : List (Option Tmp × Value)) : ∀ a, (putAll a l).defers = a.defers := by
  induction l with
  | nil => intro a; rfl
  | cons p l ih => intro a; exact (ih _).trans (put_def _ _ _)
theorem putAll_out (t : Nat) (l : List (Option Tmp × Value)) : ∀ a, (∀ p ∈ l, Prod.fst p ≠ some t) → (putAll a l).tmps[t]? = a.tmps[t]? := by
  induction l with
  | nil => intro a _; rfl
  | cons p l ih =>
    intro a h
    refine (ih _ fun q hq => h q (by simp [hq])).trans ?_
    rw [put_at, if_neg (h p (by simp))]
theorem putAll_in (t : Nat) (v : Value) (l : List (Option Tmp × Value)) : ∀ (a : Act) (i : Nat), l[i]? = some (some t, v) → (∀ (j : Nat) (p : Option Tmp × Value), l[j]? = some p → p.1 = some t → j = i) → (putAll a l).tmps[t]? = if t < a.tmps.size then some v else none := by
  induction l with
  | nil => intro a i h; simp at h
  | cons p l ih =>
    intro a i h hu
    cases i with
    | zero =>
      simp only [List.getElem?_cons_zero, Option.some.injEq] at h
      subst h
      refine (putAll_out t l _ fun q hq hqt => ?_).trans ?_
      · obtain ⟨j, hj⟩ := List.getElem?_of_mem hq
        have := hu (j + 1) q (by simpa using hj) hqt
        omega
      · rw [put_at, if_pos rfl]
    | succ i =>
      simp only [List.getElem?_cons_succ] at h
      refine (ih (a.put p.1 p.2) i h fun j q hj hq => ?_).trans ?_
      · have := hu (j + 1) q (by simpa using hj) hq
        omega
      · rw [put_size]

/-- The slots when all is done. -/
def doneAct (ops : Array Oper) (vs : List Value) (a : Act) : Act := putAll a ((ops.toList.map (·.dst)).zip vs)

theorem done_out {ops : Array Oper} {vs : List Value} {a : Act} (t : Nat) (h : ∀ (j : Nat) (p : Oper), ops[j]? = some p → p.dst ≠ some t) : (doneAct ops vs a).tmps[t]? = a.tmps[t]? := by
  refine putAll_out t _ a fun p hp e => ?_
  have h1 := (List.of_mem_zip hp).1
  obtain ⟨o, ho, hd⟩ := List.mem_map.1 h1
  obtain ⟨j, hj⟩ := List.getElem?_of_mem ho
  exact h j o (by rw [← Array.getElem?_toList]; exact hj) (hd.trans e)
theorem done_in {ops : Array Oper} {vs : List Value} {a : Act} (hok : drawOk ops = true) {i : Nat} {o : Oper} {v : Value} {t : Nat} (hi : ops[i]? = some o) (hv : vs[i]? = some v) (hd : o.dst = some t) :
    (doneAct ops vs a).tmps[t]? = if t < a.tmps.size then some v else none := by
  refine putAll_in t v _ a i ?_ fun j p hj hp => ?_
  · rw [List.getElem?_zip_eq_some]
    exact ⟨by rw [List.getElem?_map, Array.getElem?_toList, hi]; simp [hd], hv⟩
  · obtain ⟨p1, p2⟩ := p
    rw [List.getElem?_zip_eq_some] at hj
    have h1 := hj.1
    rw [List.getElem?_map, Array.getElem?_toList] at h1
    cases hq : ops[j]? with
    | none => simp [hq] at h1
    | some q =>
      simp only [hq, Option.map_some, Option.some.injEq] at h1
      exact (drawOk_at hok hi).2.2.2.2 t hd j q hq (h1.trans hp)

structure DrawInv (ops : Array Oper) (vs : List Value) (a0 : Act) (L : Array Bool) (a : Act) : Prop where
  df : a.defers = a0.defers
  sz : a.tmps.size = a0.tmps.size
  out : ∀ t, (∀ (j : Nat) (p : Oper), ops[j]? = some p → p.dst ≠ some t) → a.tmps[t]? = a0.tmps[t]?
  done : ∀ (j : Nat) (p : Oper), ops[j]? = some p → L.getD j false = true → ∀ t, p.dst = some t → a.tmps[t]? = (doneAct ops vs a0).tmps[t]?

variable {P : Program} {ops : Array Oper} {Q : Exit → Act → World → Prop} {md : Region.Mode}

theorem getD_set (L : Array Bool) (i j : Nat) (b : Bool) (hi : i < L.size) : (L.setIfInBounds i true).getD j b = if i = j then true else L.getD j b := by
  simp only [Array.getD_eq_getD_getElem?, Array.getElem?_setIfInBounds]
  by_cases h : i = j
  · subst h; simp [hi]
  · simp [h]

theorem wpAny_draw (a0 : Act) (vs : List Value) (hok : drawOk ops = true) (hv : vs.length = ops.size) (J : Array Bool → Nat → World → Prop)
    (hstep : ∀ (i : Nat) (o : Oper) (v : Value), ops[i]? = some o → vs[i]? = some v → ∀ (L : Array Bool) (k : Nat) (w : World), L.size = ops.size → L.getD i true = false →
      (∀ (j : Nat) (o' : Oper), ops[j]? = some o' → L.getD j false = true → ∀ e ∈ o'.after, Region.binds md e = true → L.getD e.on false = true) →
      (∀ e ∈ o.after, Region.binds md e = true → L.getD e.on false = true) → J L (k + 1) w →
      ∃ w', ((execOp (doneAct ops vs a0).eval o).run P w = .ok (.value v) w' ∨ ((execOp (doneAct ops vs a0).eval o).run P w = .ok .skip w' ∧ o.dst = none)) ∧ J (L.setIfInBounds i true) k w')
    (hend : ∀ L k w, (∀ i, i < ops.size → L.getD i false = true) → J L k w → Q .normal (doneAct ops vs a0) w) :
    ∀ (k : Nat) (L : Array Bool) (a : Act) (w : World), L.size = ops.size → L.toList.count false ≤ k →
      (∀ (j : Nat) (o' : Oper), ops[j]? = some o' → L.getD j false = true → ∀ e ∈ o'.after, Region.binds md e = true → L.getD e.on false = true) →
      DrawInv ops vs a0 L a → J L k w → wpAny P md ops Q k L a w := by
  have hall : ∀ L : Array Bool, L.size = ops.size → Region.ready md ops L = [] → ∀ i, i < ops.size → L.getD i false = true := by
    intro L hL hr i
    induction i using Nat.strongRecOn with
    | ind i ih =>
      intro hi
      have hio : ops[i]? = some ops[i] := Array.getElem?_eq_getElem hi
      cases hb : L.getD i true with
      | true =>
        rw [Array.getD_eq_getD_getElem?] at hb ⊢
        rw [Array.getElem?_eq_getElem (by omega)] at hb ⊢
        exact hb
      | false =>
        exfalso
        have hm : i ∈ Region.ready md ops L := by
          unfold Region.ready
          rw [List.mem_filter]
          refine ⟨List.mem_range.2 hi, ?_⟩
          simp only [hb, hio, Option.map_some, Option.getD_some, Bool.not_false, Bool.true_and]
          rw [Array.all_eq_true_iff_forall_mem]
          intro e he
          have hlt := (drawOk_at hok hio).2.2.1 e he
          rw [ih e.on hlt (by omega)]
          simp
        rw [hr] at hm
        cases hm
  have hfin : ∀ (L : Array Bool) (a : Act), (∀ i, i < ops.size → L.getD i false = true) → DrawInv ops vs a0 L a → a = doneAct ops vs a0 := by
    intro L a hL hI
    have ht : a.tmps = (doneAct ops vs a0).tmps := by
      apply Array.ext_getElem?
      intro t
      by_cases h : ∃ (j : Nat) (p : Oper), ops[j]? = some p ∧ p.dst = some t
      · obtain ⟨j, p, hj, hp⟩ := h
        exact hI.done j p hj (hL j (Array.getElem?_eq_some_iff.1 hj).1) t hp
      · have h' : ∀ (j : Nat) (p : Oper), ops[j]? = some p → p.dst ≠ some t := fun j p hj hp => h ⟨j, p, hj, hp⟩
        rw [hI.out t h', done_out t h']
    have hd : a.defers = (doneAct ops vs a0).defers := hI.df.trans (putAll_def _ _).symm
    cases a
    cases h : doneAct ops vs a0
    rw [h] at ht hd
    simp only at ht hd
    rw [ht, hd]
  have one : ∀ (k : Nat) (L : Array Bool) (a : Act) (w : World), L.size = ops.size → L.toList.count false ≤ k + 1 →
      (∀ (j : Nat) (o' : Oper), ops[j]? = some o' → L.getD j false = true → ∀ e ∈ o'.after, Region.binds md e = true → L.getD e.on false = true) →
      DrawInv ops vs a0 L a → J L (k + 1) w → ∀ i ∈ Region.ready md ops L, ∀ K : Act → World → Prop,
      (∀ a' w', (L.setIfInBounds i true).toList.count false ≤ k → (∀ (j : Nat) (o' : Oper), ops[j]? = some o' → (L.setIfInBounds i true).getD j false = true → ∀ e ∈ o'.after, Region.binds md e = true → (L.setIfInBounds i true).getD e.on false = true) →
        DrawInv ops vs a0 (L.setIfInBounds i true) a' → J (L.setIfInBounds i true) k w' → K a' w') → wpOp P ops Q i K a w := by
    intro k L a w hL hc hcl hI hJ i hi K hK
    unfold Region.ready at hi
    rw [List.mem_filter] at hi
    obtain ⟨h1, h2⟩ := hi
    have hlt := List.mem_range.1 h1
    have hio : ops[i]? = some ops[i] := Array.getElem?_eq_getElem hlt
    simp only [hio, Option.map_some, Option.getD_some, Bool.and_eq_true, Bool.not_eq_true'] at h2
    obtain ⟨hun, hdep⟩ := h2
    have hdep' : ∀ e ∈ (ops[i]).after, Region.binds md e = true → L.getD e.on false = true := by
      intro e he hb
      have := Array.all_eq_true_iff_forall_mem.1 hdep e he
      simpa [hb] using this
    obtain ⟨o1, o2, o3, o4, o5⟩ := drawOk_at hok hio
    obtain ⟨v, hvi⟩ : ∃ v, vs[i]? = some v := ⟨vs[i], List.getElem?_eq_getElem (by omega)⟩
    obtain ⟨w', hrun, hJ'⟩ := hstep i _ v hio hvi L k w hL hun hcl hdep' hJ
    have hev : ∀ x ∈ (ops[i]).op.operands, a.eval x = (doneAct ops vs a0).eval x := by
      intro x hx
      cases x with
      | tmp t =>
        have e : a.tmps[t]? = (doneAct ops vs a0).tmps[t]? := by
          by_cases h : ∃ (j : Nat) (p : Oper), ops[j]? = some p ∧ p.dst = some t
          · obtain ⟨j, p, hj, hp⟩ := h
            obtain ⟨e, he, heq, hg⟩ := o4 t hx j p hj hp
            have hb : Region.binds md e = true := by simp [Region.binds, hg]
            have := hdep' e he hb
            rw [heq] at this
            exact hI.done j p hj this t hp
          · have h' : ∀ (j : Nat) (p : Oper), ops[j]? = some p → p.dst ≠ some t := fun j p hj hp => h ⟨j, p, hj, hp⟩
            rw [hI.out t h', done_out t h']
        simp only [Act.eval, Array.getD_eq_getD_getElem?, e]
      | _ => rfl
    have hcong := execOp_congr ops[i] o2 hev
    have hLi : i < L.size := by omega
    have hcount : (L.setIfInBounds i true).toList.count false ≤ k := by
      have hb : L.toList[i]? = some false := by
        rw [Array.getD_eq_getD_getElem?, Array.getElem?_eq_getElem hLi] at hun
        rw [Array.getElem?_toList, Array.getElem?_eq_getElem hLi]
        simpa using hun
      obtain ⟨hb1, hb2⟩ := List.getElem?_eq_some_iff.1 hb
      rw [Array.toList_setIfInBounds, List.count_set hb1, hb2]
      simp only [show (false == false) = true from rfl, show (true == false) = false from rfl, if_true, Bool.false_eq_true, if_false]
      omega
    have hclosed : ∀ (j : Nat) (o' : Oper), ops[j]? = some o' → (L.setIfInBounds i true).getD j false = true → ∀ e ∈ o'.after, Region.binds md e = true → (L.setIfInBounds i true).getD e.on false = true := by
      intro j o' hj hjt e he hb
      rw [getD_set L i _ _ hLi] at hjt ⊢
      split
      · rfl
      · by_cases hij : i = j
        · subst hij
          rw [hio] at hj
          cases hj
          exact hdep' e he hb
        · rw [if_neg hij] at hjt
          exact hcl j o' hj hjt e he hb
    have hinv : DrawInv ops vs a0 (L.setIfInBounds i true) (a.put (ops[i]).dst v) := by
      refine ⟨(put_def _ _ _).trans hI.df, (put_size _ _ _).trans hI.sz, fun t ht => ?_, fun j p hj hjt t hp => ?_⟩
      · rw [put_at, if_neg (ht i _ hio)]
        exact hI.out t ht
      · rw [put_at]
        split
        · rename_i hd
          rw [done_in hok hio hvi hd, hI.sz]
        · rename_i hd
          rw [getD_set L i _ _ hLi] at hjt
          have hij : i ≠ j := by
            rintro rfl
            rw [hio] at hj
            cases hj
            exact hd hp
          rw [if_neg hij] at hjt
          exact hI.done j p hj hjt t hp
    unfold wpOp
    simp only [hio, Region.wanted, o1, if_true]
    left
    unfold Oper.wp
    rw [hcong]
    rcases hrun with hrun | ⟨hrun, hdn⟩
    · rw [hrun]
      exact hK _ _ hcount hclosed hinv hJ'
    · rw [hrun]
      have e : a.put (ops[i]).dst undef = a.put (ops[i]).dst v := by rw [hdn]; rfl
      show K (a.put (ops[i]).dst undef) w'
      rw [e]
      exact hK _ _ hcount hclosed hinv hJ'
  intro k
  induction k with
  | zero =>
    intro L a w hL hc hcl hI hJ
    have hr : Region.ready md ops L = [] := by
      unfold Region.ready
      rw [List.filter_eq_nil_iff]
      intro i hi
      have hlt := List.mem_range.1 hi
      have hne : L.getD i true = true := by
        cases hb : L.getD i true with
        | true => rfl
        | false =>
          exfalso
          have hm : false ∈ L.toList := by
            rw [Array.getD_eq_getD_getElem?, Array.getElem?_eq_getElem (by omega)] at hb
            simp only [Option.getD_some] at hb
            rw [← hb]
            simp
          have := List.count_pos_iff.2 hm
          omega
      simp [hne]
    refine ⟨hr, ?_⟩
    have hA := hall L hL hr
    rw [hfin L a hA hI]
    exact hend L 0 w hA hJ
  | succ k ih =>
    intro L a w hL hc hcl hI hJ
    refine ⟨fun hr => ?_, fun i hi => ?_⟩
    · have hA := hall L hL hr
      rw [hfin L a hA hI]
      exact hend L _ w hA hJ
    · refine one k L a w hL hc hcl hI hJ i hi _ fun a' w' hc' hcl' hI' hJ' => ?_
      exact ih _ a' w' (by simpa using hL) hc' hcl' hI' hJ'
end Go.Proofs.YtllgfccckcgekaaDoor
