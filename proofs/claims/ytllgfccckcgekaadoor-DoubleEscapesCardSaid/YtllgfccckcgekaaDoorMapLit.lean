/- A map literal whose region draws its order: whatever the order, each entry is one of those that the text has. No program in sight. -/
import Derived.Test.YtllgfccckcgekaaDoorDraw
import Derived.Maps.RangeWalk
import Derived.Below
namespace Go.Proofs.YtllgfccckcgekaaDoor
set_option maxRecDepth 100000
open Go Go.Maps Go.RowKit Go.WideMaps

/-- Each entry of the map is one of E. -/
def Sound (E : List (ByteArray × Int)) (D : DataW Unit) : Prop :=
  IsMap D ∧ ∀ kl, has D kl = true → ∃ p ∈ E, kl = .string p.1.data.toList ∧ ∀ zd, D.atKey kl zd = .lit (.int .i64 p.2)
theorem Sound.empty (E : List (ByteArray × Int)) : Sound E (.map []) := ⟨isMap_empty, fun kl h => by cases h⟩
theorem Sound.put {E : List (ByteArray × Int)} {D : DataW Unit} (h : Sound E D) {p : ByteArray × Int} (hp : p ∈ E) (hk : WideAt.IsKeyLit (.string p.1.data.toList)) : Sound E (D.put (.string p.1.data.toList) (.lit (.int .i64 p.2))) := by
  refine ⟨h.1.put _ _, fun kl hkl => ?_⟩
  by_cases hne : kl = .string p.1.data.toList
  · subst hne
    exact ⟨p, hp, rfl, fun zd => atKey_put_same h.1 hk _ _⟩
  · rw [has_put_other hne] at hkl
    obtain ⟨q, hq, h1, h2⟩ := h.2 kl hkl
    exact ⟨q, hq, h1, fun zd => (atKey_put_other hne _ _).trans (h2 zd)⟩

structure LitJ (P : Program) (k e last : Nat) (E : List (ByteArray × Int)) (w0 : World) (L : Array Bool) (m : Nat) (w : World) : Prop where
  fuel : m ≤ 1000000
  none_ : L.getD 0 false = false → w = w0
  own : L.getD 0 false = true → L.getD last false = false → ∃ n D, n + m ≤ 1000000 ∧ w.ownsMap P k (plainElem P e) w0.heap.size n D ∧ Sound E D ∧ Below w0.heap.size w0 w ∧ w.heap.size = w0.heap.size + 1
  rng : L.getD last false = true → ∃ n D cnt, w.ranges P k (plainElem P e) w0.heap.size (w0.heap.size + 1) n D (has D) cnt ∧ Sound E D ∧ Below w0.heap.size w0 w

/-- What each operation does. -/
def StepOk (P : Program) (t B last : Nat) (E : List (ByteArray × Int)) (ev : Operand → Value) (i : Nat) (o : Oper) (v : Value) : Prop :=
  if i = 0 then o.op = .makeMap t none ∧ v = .map (some B)
  else if i = last then (∃ x, o.op = .range t x ∧ ev x = .map (some B)) ∧ v = .pointer (some ⟨B + 1, 0, none⟩) ∧ (∃ c ∈ o.after, c.on + 1 = last ∧ c.ground = .data)
  else (∀ w, (execOp ev o).run P w = .ok (.value v) w) ∨
    (o.dst = none ∧ (∃ c ∈ o.after, c.on = 0 ∧ c.ground = .data) ∧ ∃ m x y key val, o.op = .insert t m x y ∧ ev m = .map (some B) ∧ ev x = .string key ∧ ev y = .int .i64 val ∧ (key, val) ∈ E ∧ key.size ≤ maxLen ∧ (Lit.int .i64 val).wf = true)

def AllSteps (P : Program) (t B last : Nat) (E : List (ByteArray × Int)) (ev : Operand → Value) : Nat → List Oper → List Value → Prop
  | i, o :: os, v :: vs => StepOk P t B last E ev i o v ∧ AllSteps P t B last E ev (i + 1) os vs
  | _, [], [] => True
  | _, _, _ => False
theorem AllSteps.length {P : Program} {t B last : Nat} {E : List (ByteArray × Int)} {ev : Operand → Value} : ∀ {i : Nat} {os : List Oper} {vs : List Value}, AllSteps P t B last E ev i os vs → vs.length = os.length
  | _, [], [], _ => rfl
  | _, [], _ :: _, h => h.elim
  | _, _ :: _, [], h => h.elim
  | _, o :: os, v :: vs, h => by simp [h.2.length]
theorem AllSteps.at {P : Program} {t B last : Nat} {E : List (ByteArray × Int)} {ev : Operand → Value} : ∀ {i : Nat} {os : List Oper} {vs : List Value}, AllSteps P t B last E ev i os vs → ∀ j o v, os[j]? = some o → vs[j]? = some v → StepOk P t B last E ev (i + j) o v
  | _, [], [], _, j, o, v, h, _ => by simp at h
  | _, [], _ :: _, h, _, _, _, _, _ => h.elim
  | _, _ :: _, [], h, _, _, _, _, _ => h.elim
  | i, o' :: os, v' :: vs, h, 0, o, v, h1, h2 => by simp at h1 h2; subst h1 h2; exact h.1
  | i, o' :: os, v' :: vs, h, j + 1, o, v, h1, h2 => by
    have := h.2.at j o v (by simpa using h1) (by simpa using h2)
    rwa [show i + (j + 1) = i + 1 + j by omega]

variable {P : Program} {ops : Array Oper} {Q : Exit → Act → World → Prop} {md : Region.Mode}

/-- The last operation but one stands behind all that are ahead of it. -/
def litOk (ops : Array Oper) : Bool := match ops[ops.size - 2]? with
  | some o => (List.range (ops.size - 2)).all (fun j => o.after.any fun e => e.on == j && (match e.ground with | .data => true | _ => false)) && decide (3 ≤ ops.size)
  | none => false

theorem wpAny_lit (a0 fin : Act) (vs : List Value) (w0 : World) (E : List (ByteArray × Int)) (t k e : TypeId) (K : Keyed P k) (ht : P.underlying t = some (.map k e)) (he : P.underlying e = some (.int .i64)) (hk : P.underlying k = some .string)
    (hok : drawOk ops = true) (hlit : litOk ops = true) (hfin : doneAct ops vs a0 = fin) (hsz : ops.size ≤ 1000000)
    (hsteps : AllSteps P t w0.heap.size (ops.size - 1) E fin.eval 0 ops.toList vs)
    (hend : ∀ w n D cnt, w.ranges P k (plainElem P e) w0.heap.size (w0.heap.size + 1) n D (has D) cnt → Sound E D → Below w0.heap.size w0 w → Q .normal fin w) :
    wpAny P md ops Q ops.size (Array.replicate ops.size false) a0 w0 := by
  subst hfin
  have hvl : vs.length = ops.size := by rw [hsteps.length]; simp
  unfold litOk at hlit
  cases hpre : ops[ops.size - 2]? with
  | none => rw [hpre] at hlit; cases hlit
  | some op2 =>
    rw [hpre] at hlit
    simp only [Bool.and_eq_true, decide_eq_true_eq] at hlit
    obtain ⟨hl1, hl2⟩ := hlit
    have hdeps : ∀ j, j < ops.size - 2 → ∃ c ∈ op2.after, c.on = j ∧ c.ground = .data := by
      intro j hj
      have h3 := List.all_eq_true.1 hl1 j (List.mem_range.2 hj)
      obtain ⟨c, hc, h4⟩ := Array.any_eq_true'.1 h3
      simp only [Bool.and_eq_true, beq_iff_eq] at h4
      refine ⟨c, hc, h4.1, ?_⟩
      revert h4
      cases c.ground <;> simp
    have hdata : ∀ c : Edge, c.ground = .data → Region.binds md c = true := by
      intro c h
      simp [Region.binds, h]
    refine wpAny_draw a0 vs hok hvl (LitJ P k e (ops.size - 1) E w0) ?_ ?_ ops.size _ a0 w0 (by simp) (by simp) ?_ ?_ ?_
    · intro i o v hi hvi L m w hL hun hcl hdep hJ
      have hilt : i < ops.size := (Array.getElem?_eq_some_iff.1 hi).1
      have hun' : L.getD i false = false := by
        rw [Array.getD_eq_getD_getElem?, Array.getElem?_eq_getElem (by omega)] at hun ⊢
        exact hun
      have hst := hsteps.at i o v (by rw [Array.getElem?_toList]; exact hi) hvi
      rw [Nat.zero_add] at hst
      have hLi : i < L.size := by omega
      have hpre2 : L.getD (ops.size - 2) false = true → ∀ j, j < ops.size - 2 → L.getD j false = true := by
        intro h j hj
        obtain ⟨c, hc, h1, h2⟩ := hdeps j hj
        rw [← h1]
        exact hcl _ _ hpre h c hc (hdata c h2)
      obtain ⟨olast, holast⟩ : ∃ o, ops[ops.size - 1]? = some o := ⟨_, Array.getElem?_eq_getElem (by omega)⟩
      obtain ⟨vlast, hvlast⟩ : ∃ v, vs[ops.size - 1]? = some v := ⟨_, List.getElem?_eq_getElem (by omega)⟩
      have hlastdep : ∃ c ∈ olast.after, c.on + 1 = ops.size - 1 ∧ c.ground = .data := by
        have h := hsteps.at (ops.size - 1) olast vlast (by rw [Array.getElem?_toList]; exact holast) hvlast
        rw [Nat.zero_add] at h
        unfold StepOk at h
        rw [if_neg (by omega), if_pos rfl] at h
        exact h.2.2
      have hlast : i < ops.size - 1 → L.getD (ops.size - 1) false = false := by
        intro hlt
        cases hb : L.getD (ops.size - 1) false with
        | false => rfl
        | true =>
          exfalso
          obtain ⟨c, hc, h1, h2⟩ := hlastdep
          have h3 := hcl _ _ holast hb c hc (hdata c h2)
          rw [show c.on = ops.size - 2 by omega] at h3
          by_cases hi2 : i = ops.size - 2
          · rw [hi2, h3] at hun'; cases hun'
          · have := hpre2 h3 i (by omega)
            rw [this] at hun'; cases hun'
      unfold StepOk at hst
      by_cases hi0 : i = 0
      · subst hi0
        rw [if_pos rfl] at hst
        obtain ⟨hop, rfl⟩ := hst
        have hw := hJ.none_ hun'
        subst hw
        refine ⟨w.alloc (.map #[] 0), .inl ?_, ⟨by have := hJ.fuel; omega, fun h => ?_, fun _ hl => ?_, fun h => ?_⟩⟩
        · simp [execOp, hop, run_makeMap, Result.andThen]
        · rw [getD_set L 0 0 _ hLi] at h; simp at h
        · exact ⟨0, .map [], by have := hJ.fuel; omega, World.ownsMap_made w P k _, Sound.empty E, (Below.refl _ _).alloc (Nat.le_refl _) _, by simp⟩
        · rw [getD_set L 0 _ _ hLi, if_neg (by omega)] at h
          rw [hlast (by omega)] at h
          cases h
      · rw [if_neg hi0] at hst
        have hset0 : (L.setIfInBounds i true).getD 0 false = L.getD 0 false := by rw [getD_set L i 0 _ hLi, if_neg (by omega)]
        by_cases hil : i = ops.size - 1
        · rw [if_pos hil] at hst
          obtain ⟨⟨x, hop, hx⟩, rfl, c, hc, h1, h2⟩ := hst
          have h3 := hdep c hc (hdata c h2)
          rw [show c.on = ops.size - 2 by omega] at h3
          have h0 := hpre2 h3 0 (by omega)
          obtain ⟨n, D, hn, hown, hsd, hb, hwz⟩ := hJ.own h0 (hil ▸ hun')
          obtain ⟨w', hrun, hrg, hgr, hws⟩ := hown.range K ht
          rw [hwz] at hrun hrg
          refine ⟨w', .inl ?_, ⟨by have := hJ.fuel; omega, fun h => ?_, fun _ hl => ?_, fun _ => ⟨n, D, _, hrg, hsd, hb.grown hgr hb.size (by simp)⟩⟩⟩
          · simp [execOp, hop, hx, hrun, Result.andThen]
          · rw [hset0, h0] at h; cases h
          · rw [← hil, getD_set L i i _ hLi, if_pos rfl] at hl; cases hl
        · rw [if_neg hil] at hst
          have hsetl : (L.setIfInBounds i true).getD (ops.size - 1) false = L.getD (ops.size - 1) false := by rw [getD_set L i _ _ hLi, if_neg hil]
          have hlf := hlast (by omega)
          rcases hst with hrun | ⟨hd, ⟨c, hc, h1, h2⟩, mo, x, y, key, val, hop, hm, hx, hy, hE, hks, hwf⟩
          · refine ⟨w, .inl (hrun w), ⟨by have := hJ.fuel; omega, fun h => hJ.none_ (hset0 ▸ h), fun h hl => ?_, fun h => (by rw [hsetl, hlf] at h; cases h)⟩⟩
            obtain ⟨n, D, hn, r⟩ := hJ.own (hset0 ▸ h) (hsetl ▸ hl)
            exact ⟨n, D, by omega, r⟩
          · have h0 := hdep c hc (hdata c h2)
            rw [h1] at h0
            obtain ⟨n, D, hn, hown, hsd, hb, hwz⟩ := hJ.own h0 hlf
            have hkey : keyOf P k (.string key) = some (.string key.data.toList) := keyOf_string_mk hk hks
            obtain ⟨w', hrun, hown', htu⟩ := hown.store K ht (by unfold maxLen; omega) hkey (plainElem_int he hwf)
            have hws : w'.heap.size = w.heap.size := by
              obtain ⟨_, _, _, _, _, rfl⟩ := htu
              simp [ChangeMaps.setBlock]
            refine ⟨w', .inr ⟨?_, hd⟩, ⟨by have := hJ.fuel; omega, fun h => (by rw [hset0, h0] at h; cases h), fun _ hl => ?_, fun h => (by rw [hsetl, hlf] at h; cases h)⟩⟩
            · simp [execOp, hop, hm, hx, hy, hrun, Result.andThen]
            · exact ⟨n + 1, _, by omega, hown', hsd.put (p := (key, val)) hE (K.key hkey), hb.grown htu.grown hb.size (fun j hj => by cases hj; exact Nat.le_refl _), hws.trans hwz⟩
    · intro L m w hall hJ
      obtain ⟨n, D, cnt, h1, h2, h3⟩ := hJ.rng (hall _ (by omega))
      exact hend w n D cnt h1 h2 h3
    · intro j o' _ h
      simp [Array.getD_eq_getD_getElem?, Array.getElem?_replicate] at h
      split at h <;> simp at h
    · exact ⟨rfl, rfl, fun t _ => rfl, fun j p _ h => by
        simp [Array.getD_eq_getD_getElem?, Array.getElem?_replicate] at h
        split at h <;> simp at h⟩
    · refine ⟨hsz, fun _ => rfl, fun h => ?_, fun h => ?_⟩ <;>
      · simp [Array.getD_eq_getD_getElem?, Array.getElem?_replicate] at h
        split at h <;> simp at h

/-- The range over such a map, on its way. -/
def LitLoop (P : Program) (k e B r : Nat) (E : List (ByteArray × Int)) (w0 w : World) : Prop :=
  ∃ n D left cnt, w.ranges P k (plainElem P e) B r n D left cnt ∧ Sound E D ∧ (∀ kl, left kl = true → has D kl = true) ∧ Below B w0 w
theorem LitLoop.start {P : Program} {k e B r : Nat} {E : List (ByteArray × Int)} {w0 w : World} {n : Nat} {D : DataW Unit} {cnt : Nat} (h : w.ranges P k (plainElem P e) B r n D (has D) cnt) (hs : Sound E D) (hb : Below B w0 w) : LitLoop P k e B r E w0 w :=
  ⟨n, D, _, cnt, h, hs, fun _ h => h, hb⟩
theorem LitLoop.below {P : Program} {k e B r : Nat} {E : List (ByteArray × Int)} {w0 w w' : World} (h : LitLoop P k e B r E w0 w) (hb : Below w.heap.size w w') : LitLoop P k e B r E w0 w' ∧ w'.rangeLeft B r = w.rangeLeft B r := by
  obtain ⟨n, D, left, cnt, h1, h2, h3, h4⟩ := h
  have hg : w.grownBy w' none := ⟨hb.os, hb.tape, hb.output, hb.size, fun i hi _ => hb.block i hi⟩
  have h1' := h1.kept hg (by simp) (by simp)
  exact ⟨⟨n, D, left, cnt, h1', h2, h3, h4.trans (hb.mono (Nat.le_of_lt h1.owns.lt))⟩, by rw [h1.left_eq, h1'.left_eq]⟩
theorem keyOf_string_inv {P : Program} {k : TypeId} (hk : P.underlying k = some .string) {key : Value} {kl : Lit} (h : keyOf P k key = some kl) : ∃ s, key = .string s ∧ kl = .string s.data.toList := by
  cases key <;> simp [keyOf, hk, mapKey] at h
  obtain ⟨_, rfl⟩ := h
  exact ⟨_, rfl, rfl⟩

theorem wpList_next_lit (w : World) {ops : Array Oper} {rest : List Oper} {o : Oper} {a : Act} {Q : Exit → Act → World → Prop} (hg : o.guard = none) (it : Operand) (hop : o.op = .next it false) (k e : TypeId) (K : Keyed P k) (hk : P.underlying k = some .string) (he : P.underlying e = some (.int .i64))
    (B r : Nat) (E : List (ByteArray × Int)) (w0 : World) (hBr : B ≤ r) (hit : a.eval it = .pointer (some ⟨r, 0, none⟩)) (h : LitLoop P k e B r E w0 w)
    (hDone : wpList P ops Q rest (a.put o.dst (.tuple #[.bool false])) w)
    (hMore : ∀ (s : ByteArray) (c : Int) (w' : World), (s, c) ∈ E → LitLoop P k e B r E w0 w' → w'.rangeLeft B r < w.rangeLeft B r → (Instr.entry (.pointer (some ⟨r, 0, none⟩))).run P w' = .ok (.tuple #[.string s, .int .i64 c]) w' →
      wpList P ops Q rest (a.put o.dst (.tuple #[.bool true, .string s, .int .i64 c])) w') :
    wpList P ops Q (o :: rest) a w := by
  obtain ⟨n, D, left, cnt, h1, h2, h3, h4⟩ := h
  refine wpList_next_ranges w hg it hop k K (plainElem P e) Value.string (Value.int .i64) (fun key kl hkey => by obtain ⟨x, rfl, _⟩ := keyOf_string_inv hk hkey; exact ⟨x, rfl⟩) (fun v y hv => by obtain ⟨c, rfl, _⟩ := plainElem_int_inv he hv; exact ⟨c, rfl⟩) B r n D left cnt hit h1 (fun _ _ => hDone) ?_
  intro x c kl y w' cnt' hkey hlk hv hat hrg hlt hgr hsz hen
  obtain ⟨x', ex, rfl⟩ := keyOf_string_inv hk hkey
  cases ex
  obtain ⟨c', ec, rfl, _⟩ := plainElem_int_inv he hv
  cases ec
  obtain ⟨p, hp, hpk, hpa⟩ := h2.2 _ (h3 _ hlk)
  have e1 : x = p.1 := by
    simp only [Lit.string.injEq] at hpk
    exact ByteArray.ext (Array.ext' hpk)
  have e2 : c = p.2 := by
    have h5 := (hpa (.lit (.int .i64 0))).symm.trans (hat (.lit (.int .i64 0)))
    simp at h5
    exact h5.symm
  subst e1 e2
  refine hMore _ _ w' hp ⟨n, D, _, cnt', hrg, h2, fun kl hkl => ?_, h4.grown hgr (by have := h1.owns.lt; omega) (fun j hj => by cases hj; exact hBr)⟩ (by rw [h1.left_eq, hrg.left_eq]; exact hlt) hen
  simp only [Bool.and_eq_true] at hkl
  exact h3 kl hkl.1
end Go.Proofs.YtllgfccckcgekaaDoor
