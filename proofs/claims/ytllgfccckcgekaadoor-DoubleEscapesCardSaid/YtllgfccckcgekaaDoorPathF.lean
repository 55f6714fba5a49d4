/- The plain functions of path.Parse and what they are made of; laws: two paths put together, long paths, long names. No program in sight. -/
import Derived.Test.YtllgfccckcgekaaDoorChars
import Derived.Lib.RuneBytes
namespace Go.Proofs.YtllgfccckcgekaaDoor
set_option maxRecDepth 100000
open Go.RowKit Go.Proofs.YtllgfccckcgekaaDoorW.PrintWords Go.Proofs.YtllgfccckcgekaaDoorW.PrintLast Go.Proofs.YtllgfccckcgekaaDoorW.PrintMore

/-- A digit of sixteen. -/
def hexV (c : Int) : Option Int := if 48 ≤ c ∧ c ≤ 57 then some (c - 48) else if 65 ≤ c ∧ c ≤ 70 then some (c - 55) else if 97 ≤ c ∧ c ≤ 102 then some (c - 87) else none
/-- So many digits of sixteen. -/
def hexN : Nat → Int → List Int → Option Int
  | 0, v, _ => some v
  | _ + 1, _, [] => none
  | n + 1, v, c :: t => match hexV c with | none => none | some d => hexN n (16 * v + d) t
/-- The rune of a letter. -/
def escL (c : Int) : Option Int :=
  if c = 48 then some 0 else if c = 97 then some 7 else if c = 98 then some 8 else if c = 116 then some 9 else if c = 110 then some 10 else if c = 118 then some 11 else if c = 102 then some 12 else if c = 114 then some 13
  else if c = 101 then some 27 else if c = 78 then some 133 else if c = 95 then some 160 else if c = 76 then some 8232 else if c = 80 then some 8233
  else if c = 34 ∨ c = 47 ∨ c = 92 ∨ c = 32 then some c else none
def digN (c : Int) : Nat := if c = 120 then 2 else if c = 117 then 4 else if c = 85 then 8 else 0
def runeOk (u : Int) : Bool := decide (u ≤ 1114111) && !(decide (55296 ≤ u) && decide (u ≤ 57343))
/-- What stands behind a backslash: the rune, how many bytes. -/
def escF : List Int → Option (Int × Nat)
  | [] => none
  | c :: t => match escL c with
    | some r => some (r, 1)
    | none => if digN c = 0 then none else match hexN (digN c) 0 t with
      | none => none
      | some u => if runeOk u then some (u, digN c + 1) else none
/-- A scalar in double quotes behind its first quote; i: where one stands. -/
def takeQ : Nat → List Int → Nat → List Int → Option (List Int × Nat)
  | 0, _, _, _ => none
  | _ + 1, _, _, [] => none
  | f + 1, out, i, c :: t =>
    if c = 10 ∨ c = 13 then none else if c = 34 then some (out, i + 1) else if c = 92 then
      match escF t with
      | none => none
      | some (r, k) => takeQ f (out ++ Lib.encodeRuneZ r) (i + 1 + k) (t.drop k)
    else takeQ f (out ++ [c]) (i + 1) t
def takeD : List Int → Option (List Int × Nat)
  | 34 :: t => takeQ (t.length + 1) [] 1 t
  | _ => none

/-- A step of a path. -/
structure Stp where
  kind : Int
  name : List Int
  n : Int
deriving DecidableEq
def numV (xs : List Int) : Int := xs.foldl (fun v c => v * 10 + (c - 48)) 0
def numberF (xs : List Int) : Option (Int × List Int) :=
  let w := xs.takeWhile digitF
  if w.length < 1 ∨ 6 < w.length ∨ (1 < w.length ∧ w.head? = some 48) then none else some (numV w, xs.drop w.length)
def nameP (xs : List Int) : Option (List Int × List Int) :=
  let w := xs.takeWhile letterF
  if nameF w then some (w, xs.drop w.length) else none
def stepF : List Int → Option (Stp × List Int)
  | 91 :: t => match numberF t with
    | some (v, 93 :: r) => some (⟨3, [], v⟩, r)
    | _ => none
  | 46 :: c :: t =>
    if c = 46 then some (⟨5, [], 0⟩, t) else if c = 42 then some (⟨4, [], 0⟩, t)
    else if c = 34 then (takeD (c :: t)).map fun r => (⟨2, r.1, 0⟩, (c :: t).drop r.2)
    else (nameP (c :: t)).map fun r => (⟨2, r.1, 0⟩, r.2)
  | _ => none
def firstF : List Int → Option (List Stp × List Int)
  | 64 :: 42 :: t => some ([⟨1, [], -1⟩], t)
  | 64 :: t => (numberF t).map fun r => ([⟨1, [], r.1⟩], r.2)
  | xs => some ([], xs)
def stepsF : Nat → List Int → Option (List Stp)
  | _, [] => some []
  | 0, _ => none
  | f + 1, xs => match stepF xs with
    | none => none
    | some (x, r) => (stepsF f r).map (x :: ·)
def wide (x : Stp) : Bool := decide (128 < x.name.length)
def parseF (xs : List Int) : List Stp × Int := match firstF xs with
  | none => ([], 6)
  | some (o, r) => match stepsF r.length r with
    | none => ([], 6)
    | some l => if 32 < (o ++ l).length ∨ (o ++ l).any wide then ([], 10) else (o ++ l, 0)

-- laws
theorem hexN_le : ∀ (n : Nat) (v : Int) (l : List Int) (u : Int), hexN n v l = some u → n ≤ l.length
  | 0, _, _, _, _ => by omega
  | n + 1, _, [], _, h => by simp [hexN] at h
  | n + 1, v, c :: t, u, h => by
    simp only [hexN] at h
    split at h
    · cases h
    · have := hexN_le n _ t u h
      simp; omega
theorem escF_le {l : List Int} {r : Int} {k : Nat} (h : escF l = some (r, k)) : 1 ≤ k ∧ k ≤ l.length := by
  cases l with
  | nil => simp [escF] at h
  | cons c t =>
    simp only [escF] at h
    split at h
    · simp at h; simp; omega
    · split at h
      · cases h
      · split at h
        · cases h
        · rename_i u hu
          split at h
          · simp at h
            have := hexN_le _ _ _ _ hu
            simp; omega
          · cases h
theorem takeQ_le : ∀ (f : Nat) (out : List Int) (i : Nat) (xs : List Int) (v : List Int) (n : Nat), takeQ f out i xs = some (v, n) → i < n ∧ n ≤ i + xs.length
  | 0, _, _, _, _, _, h => by simp [takeQ] at h
  | f + 1, _, _, [], _, _, h => by simp [takeQ] at h
  | f + 1, out, i, c :: t, v, n, h => by
    simp only [takeQ] at h
    split at h
    · cases h
    · split at h
      · simp at h; simp; omega
      · split at h
        · split at h
          · cases h
          · rename_i r k he
            have h1 := takeQ_le f _ _ _ _ _ h
            have h2 := escF_le he
            rw [List.length_drop] at h1
            simp
            omega
        · have := takeQ_le f _ _ _ _ _ h
          simp; omega
theorem takeD_le {xs v : List Int} {n : Nat} (h : takeD xs = some (v, n)) : 2 ≤ n ∧ n ≤ xs.length := by
  unfold takeD at h
  split at h
  · have := takeQ_le _ _ _ _ _ _ h
    simp; omega
  · cases h
theorem hexN_app (m : List Int) : ∀ (n : Nat) (v : Int) (l : List Int) (u : Int), hexN n v l = some u → hexN n v (l ++ m) = some u
  | 0, _, _, _, h => h
  | n + 1, _, [], _, h => by simp [hexN] at h
  | n + 1, v, c :: t, u, h => by
    simp only [hexN, List.cons_append] at h ⊢
    split at h
    · cases h
    · exact hexN_app m n _ t u h
theorem escF_app (m : List Int) {l : List Int} {r : Int} {k : Nat} (h : escF l = some (r, k)) : escF (l ++ m) = some (r, k) := by
  cases l with
  | nil => simp [escF] at h
  | cons c t =>
    simp only [escF, List.cons_append] at h ⊢
    split at h
    · exact h
    · split at h
      · cases h
      · rename_i hd
        rw [if_neg hd]
        split at h
        · cases h
        · rename_i u hu
          rw [hexN_app m _ _ _ _ hu]
          exact h
theorem takeQ_app (m : List Int) : ∀ (f g : Nat) (out : List Int) (i : Nat) (xs : List Int) (r : List Int × Nat), f ≤ g → takeQ f out i xs = some r → takeQ g out i (xs ++ m) = some r
  | 0, _, _, _, _, _, _, h => by simp [takeQ] at h
  | f + 1, _, _, _, [], _, _, h => by simp [takeQ] at h
  | f + 1, g, out, i, c :: t, r, hg, h => by
    obtain ⟨g, rfl⟩ : ∃ g', g = g' + 1 := ⟨g - 1, by omega⟩
    simp only [takeQ, List.cons_append] at h ⊢
    split at h
    · cases h
    · rename_i h1
      rw [if_neg h1]
      split at h
      · rename_i h2; rw [if_pos h2]; exact h
      · rename_i h2
        rw [if_neg h2]
        split at h
        · rename_i h3
          rw [if_pos h3]
          split at h
          · cases h
          · rename_i x k he
            rw [escF_app m he]
            have h2 := escF_le he
            simp only
            rw [List.drop_append_of_le_length h2.2]
            exact takeQ_app m f g _ _ _ _ (by omega) h
        · rename_i h3
          rw [if_neg h3]
          exact takeQ_app m f g _ _ _ _ (by omega) h
theorem takeD_app (m : List Int) {xs : List Int} {r : List Int × Nat} (h : takeD xs = some r) : takeD (xs ++ m) = some r := by
  unfold takeD at h
  split at h
  · exact takeQ_app m _ _ _ _ _ _ (by simp) h
  · cases h
theorem takeWhile_app {p : Int → Bool} : ∀ (xs m : List Int), ((∀ y, m.head? = some y → p y = false) ∨ (xs.takeWhile p).length < xs.length) → (xs ++ m).takeWhile p = xs.takeWhile p
  | [], m, h => by
    cases m with
    | nil => rfl
    | cons y t =>
      rcases h with h | h
      · simp [h y rfl]
      · simp at h
  | x :: xs, m, h => by
    rw [List.cons_append, List.takeWhile_cons, List.takeWhile_cons]
    cases hp : p x with
    | false => rfl
    | true =>
      simp only [if_true]
      rw [takeWhile_app xs m (h.imp id fun h => by rw [List.takeWhile_cons, hp] at h; simpa using h)]
theorem takeWhile_le {p : Int → Bool} (xs : List Int) : (xs.takeWhile p).length ≤ xs.length := (List.takeWhile_sublist _).length_le
theorem numberF_app {xs m : List Int} {v : Int} {r : List Int} (h : numberF xs = some (v, r)) (hm : r ≠ [] ∨ ∀ y, m.head? = some y → digitF y = false) : numberF (xs ++ m) = some (v, r ++ m) ∧ r.length < xs.length := by
  unfold numberF at h ⊢
  simp only at h ⊢
  split at h
  · cases h
  · rename_i hc
    simp only [Option.some.injEq, Prod.mk.injEq] at h
    obtain ⟨rfl, rfl⟩ := h
    have hle := takeWhile_le (p := digitF) xs
    have hw : (xs ++ m).takeWhile digitF = xs.takeWhile digitF := by
      apply takeWhile_app
      rcases hm with h | h
      · right
        rcases Nat.lt_or_ge (xs.takeWhile digitF).length xs.length with h2 | h2
        · exact h2
        · exact absurd (List.drop_eq_nil_of_le h2) h
      · left; exact h
    rw [hw, if_neg hc, List.drop_append_of_le_length hle]
    refine ⟨rfl, ?_⟩
    rw [List.length_drop]
    omega
theorem nameP_app {xs m v r : List Int} (h : nameP xs = some (v, r)) (hm : ∀ y, m.head? = some y → letterF y = false) : nameP (xs ++ m) = some (v, r ++ m) ∧ r.length < xs.length := by
  unfold nameP at h ⊢
  simp only at h ⊢
  split at h
  · rename_i hn
    simp only [Option.some.injEq, Prod.mk.injEq] at h
    obtain ⟨rfl, rfl⟩ := h
    have hle := takeWhile_le (p := letterF) xs
    rw [takeWhile_app xs m (.inl hm), if_pos hn, List.drop_append_of_le_length hle]
    refine ⟨rfl, ?_⟩
    rw [List.length_drop]
    simp [nameF] at hn
    omega
  · cases h
/-- What stands behind begins with a dot or a bracket, or there is nothing. -/
def Opens (m : List Int) : Prop := ∀ y, m.head? = some y → y = 46 ∨ y = 91
theorem Opens.dig {m : List Int} (h : Opens m) : ∀ y, m.head? = some y → digitF y = false := by
  intro y hy; rcases h y hy with rfl | rfl <;> rfl
theorem Opens.let_ {m : List Int} (h : Opens m) : ∀ y, m.head? = some y → letterF y = false := by
  intro y hy; rcases h y hy with rfl | rfl <;> rfl
theorem stepF_app {xs m r : List Int} {x : Stp} (h : stepF xs = some (x, r)) (hm : Opens m) : stepF (xs ++ m) = some (x, r ++ m) ∧ r.length < xs.length := by
  unfold stepF at h
  split at h
  · rename_i t
    split at h
    · rename_i v r' hn
      simp only [Option.some.injEq, Prod.mk.injEq] at h
      obtain ⟨rfl, rfl⟩ := h
      have h1 := numberF_app (m := m) hn (.inl (by simp))
      simp only [List.cons_append, stepF]
      rw [h1.1]
      refine ⟨rfl, ?_⟩
      have := h1.2
      simp at this ⊢
      omega
    · cases h
  · rename_i c t
    simp only [List.cons_append, stepF]
    split at h
    · rename_i hc
      simp only [Option.some.injEq, Prod.mk.injEq] at h
      obtain ⟨rfl, rfl⟩ := h
      rw [if_pos hc]
      exact ⟨rfl, by simp; omega⟩
    · rename_i hc
      rw [if_neg hc]
      split at h
      · rename_i h2
        simp only [Option.some.injEq, Prod.mk.injEq] at h
        obtain ⟨rfl, rfl⟩ := h
        rw [if_pos h2]
        exact ⟨rfl, by simp; omega⟩
      · rename_i h2
        rw [if_neg h2]
        split at h
        · rename_i h3
          rw [if_pos h3]
          cases ht : takeD (c :: t) with
          | none => rw [ht] at h; simp at h
          | some q =>
            rw [ht] at h
            simp only [Option.map_some, Option.some.injEq, Prod.mk.injEq] at h
            obtain ⟨rfl, rfl⟩ := h
            have e := takeD_app m ht
            have h4 := takeD_le (v := q.1) (n := q.2) ht
            rw [List.cons_append] at e
            rw [e]
            refine ⟨?_, ?_⟩
            · simp only [Option.map_some, Option.some.injEq, Prod.mk.injEq, true_and]
              rw [← List.cons_append, List.drop_append_of_le_length h4.2]
            · rw [List.length_drop]; simp at h4 ⊢; omega
        · rename_i h3
          rw [if_neg h3]
          cases ht : nameP (c :: t) with
          | none => rw [ht] at h; simp at h
          | some q =>
            rw [ht] at h
            simp only [Option.map_some, Option.some.injEq, Prod.mk.injEq] at h
            obtain ⟨rfl, rfl⟩ := h
            obtain ⟨e, h4⟩ := nameP_app (v := q.1) (r := q.2) ht hm.let_
            rw [List.cons_append] at e
            rw [e]
            exact ⟨rfl, by simp at h4 ⊢; omega⟩
  · cases h
theorem opens_nil : Opens [] := fun y h => by simp at h
theorem stepF_less {xs r : List Int} {x : Stp} (h : stepF xs = some (x, r)) : r.length < xs.length := (stepF_app h opens_nil).2
theorem stepsF_fuel : ∀ (f g : Nat) (xs : List Int), xs.length ≤ f → xs.length ≤ g → stepsF f xs = stepsF g xs
  | 0, 0, _, _, _ => rfl
  | f, g, [], _, _ => by cases f <;> cases g <;> rfl
  | 0, _, _ :: _, h, _ => by simp at h
  | _, 0, _ :: _, _, h => by simp at h
  | f + 1, g + 1, c :: t, h1, h2 => by
    simp only [stepsF]
    split
    · rfl
    · rename_i x r hs
      have := stepF_less hs
      simp at this h1 h2
      rw [stepsF_fuel f g r (by omega) (by omega)]
theorem stepF_opens {xs r : List Int} {x : Stp} (h : stepF xs = some (x, r)) : Opens xs := by
  intro y hy
  unfold stepF at h
  split at h
  · simp at hy; omega
  · simp at hy; omega
  · cases h
theorem stepF_kind {xs r : List Int} {x : Stp} (h : stepF xs = some (x, r)) : x.kind ≠ 1 := by
  unfold stepF at h
  split at h
  · split at h
    · simp only [Option.some.injEq, Prod.mk.injEq] at h
      rw [← h.1]; simp
    · cases h
  · rename_i c t
    split at h
    · simp only [Option.some.injEq, Prod.mk.injEq] at h; rw [← h.1]; decide
    · split at h
      · simp only [Option.some.injEq, Prod.mk.injEq] at h; rw [← h.1]; decide
      · split at h
        · cases ht : takeD (c :: t) with
          | none => rw [ht] at h; simp at h
          | some q => rw [ht] at h; simp only [Option.map_some, Option.some.injEq, Prod.mk.injEq] at h; rw [← h.1]; simp
        · cases ht : nameP (c :: t) with
          | none => rw [ht] at h; simp at h
          | some q => rw [ht] at h; simp only [Option.map_some, Option.some.injEq, Prod.mk.injEq] at h; rw [← h.1]; simp
  · cases h
theorem stepsF_app {m : List Int} {l' : List Stp} (hm : Opens m) (h' : stepsF m.length m = some l') : ∀ (f : Nat) (xs : List Int) (l : List Stp), stepsF f xs = some l → ∀ g, (xs ++ m).length ≤ g → stepsF g (xs ++ m) = some (l ++ l')
  | f, [], l, h, g, hg => by
    have : l = [] := by cases f <;> simpa [stepsF] using h.symm
    subst this
    rw [List.nil_append, stepsF_fuel g m.length m (by simpa using hg) (Nat.le_refl _)]
    exact h'
  | 0, c :: t, l, h, g, hg => by simp [stepsF] at h
  | f + 1, c :: t, l, h, g, hg => by
    simp only [stepsF] at h
    split at h
    · cases h
    · rename_i x r hs
      cases hr : stepsF f r with
      | none => rw [hr] at h; simp at h
      | some l2 =>
        rw [hr] at h
        simp only [Option.map_some, Option.some.injEq] at h
        subst h
        obtain ⟨h1, h2⟩ := stepF_app hs hm
        obtain ⟨g, rfl⟩ : ∃ g', g = g' + 1 := ⟨g - 1, by simp at hg; omega⟩
        rw [List.cons_append] at h1 ⊢
        simp only [stepsF, h1]
        rw [stepsF_app hm h' f r l2 hr g (by simp at hg h2 ⊢; omega)]
        rfl
theorem firstF_app {xs m r : List Int} {o : List Stp} (h : firstF xs = some (o, r)) (hm : Opens m) (hx : xs ≠ []) : firstF (xs ++ m) = some (o, r ++ m) := by
  unfold firstF at h
  split at h
  · simp only [Option.some.injEq, Prod.mk.injEq] at h
    obtain ⟨rfl, rfl⟩ := h
    rfl
  · rename_i t hne
    cases hn : numberF t with
    | none => rw [hn] at h; simp at h
    | some q =>
      rw [hn] at h
      simp only [Option.map_some, Option.some.injEq, Prod.mk.injEq] at h
      obtain ⟨rfl, rfl⟩ := h
      have e := (numberF_app (v := q.1) (r := q.2) hn (.inr hm.dig)).1
      have ht : t ≠ [] := by rintro rfl; simp [numberF] at hn
      cases t with
      | nil => exact absurd rfl ht
      | cons c t =>
        have hc : c ≠ 42 := by rintro rfl; exact hne t rfl
        simp only [List.cons_append] at e ⊢
        unfold firstF
        split
        · rename_i h2; simp at h2; exact absurd h2.1 hc
        · rename_i t2 hne2 h2
          simp at h2
          subst h2
          rw [e]
          rfl
        · rename_i xs2 h3 h4; exact absurd rfl (h4 _)
  · rename_i h1 h2
    simp only [Option.some.injEq, Prod.mk.injEq] at h
    obtain ⟨rfl, rfl⟩ := h
    cases xs with
    | nil => exact absurd rfl hx
    | cons c t =>
      have hc : c ≠ 64 := by rintro rfl; exact h2 t rfl
      unfold firstF
      split
      · rename_i h3; simp at h3; exact absurd h3.1 hc
      · rename_i h3; simp at h3; exact absurd h3.1 hc
      · rfl
/-- Two paths put together. -/
theorem parseF_join {a b : List Int} {x y : List Stp} (ha : parseF a = (x, 0)) (hb : parseF b = (y, 0)) (hl : x.length + y.length ≤ 32) (hd : ∀ s, y.head? = some s → s.kind ≠ 1) : parseF (a ++ b) = (x ++ y, 0) := by
  by_cases ha0 : a = []
  · subst ha0
    have : x = [] := by simpa [parseF, firstF, stepsF] using ha.symm
    subst this
    simpa using hb
  · unfold parseF at ha hb ⊢
    cases hfa : firstF a with
    | none => rw [hfa] at ha; simp at ha
    | some p =>
      obtain ⟨o, r⟩ := p
      rw [hfa] at ha
      simp only at ha
      cases hsa : stepsF r.length r with
      | none => rw [hsa] at ha; simp at ha
      | some l =>
        rw [hsa] at ha
        simp only at ha
        split at ha
        · simp at ha
        · rename_i hc
          simp only [Prod.mk.injEq, and_true] at ha
          subst ha
          cases hfb : firstF b with
          | none => rw [hfb] at hb; simp at hb
          | some p =>
            obtain ⟨o', r'⟩ := p
            rw [hfb] at hb
            simp only at hb
            cases hsb : stepsF r'.length r' with
            | none => rw [hsb] at hb; simp at hb
            | some l' =>
              rw [hsb] at hb
              simp only at hb
              split at hb
              · simp at hb
              · rename_i hc'
                simp only [Prod.mk.injEq, and_true] at hb
                subst hb
                have ho : o' = [] ∧ r' = b := by
                  unfold firstF at hfb
                  split at hfb
                  · simp only [Option.some.injEq, Prod.mk.injEq] at hfb
                    rw [← hfb.1] at hd
                    exact absurd rfl (hd _ rfl)
                  · rename_i t hne
                    cases hn : numberF t with
                    | none => rw [hn] at hfb; simp at hfb
                    | some q =>
                      rw [hn] at hfb
                      simp only [Option.map_some, Option.some.injEq, Prod.mk.injEq] at hfb
                      rw [← hfb.1] at hd
                      exact absurd rfl (hd _ rfl)
                  · simp only [Option.some.injEq, Prod.mk.injEq] at hfb
                    exact ⟨hfb.1.symm, hfb.2.symm⟩
                obtain ⟨rfl, rfl⟩ := ho
                have hop : Opens r' := by
                  cases r' with
                  | nil => exact opens_nil
                  | cons c t =>
                    simp only [List.length_cons, stepsF] at hsb
                    split at hsb
                    · cases hsb
                    · rename_i hs; exact stepF_opens hs
                rw [firstF_app hfa hop ha0]
                simp only
                rw [stepsF_app hop hsb _ _ _ hsa _ (Nat.le_refl _)]
                simp only [List.nil_append] at hc' hl ⊢
                rw [if_neg, List.append_assoc]
                simp only [List.length_append, List.any_append, Bool.or_eq_true, not_or, Nat.not_lt] at hc hc' hl ⊢
                refine ⟨by omega, hc.2.1, hc.2.2, hc'.2⟩
/-- So many times '.a'. -/
def aa : Nat → List Int
  | 0 => []
  | n + 1 => 46 :: 97 :: aa n
theorem aa_length : ∀ n, (aa n).length = 2 * n
  | 0 => rfl
  | n + 1 => by simp [aa, aa_length n]; omega
theorem aa_opens (n : Nat) : Opens (aa n) := by
  intro y h
  cases n with
  | zero => simp [aa] at h
  | succ n => simp [aa] at h; exact .inl h.symm
theorem aa_snoc : ∀ n, aa (n + 1) = aa n ++ [46, 97]
  | 0 => rfl
  | n + 1 => by
    have := aa_snoc n
    show 46 :: 97 :: aa (n + 1) = (46 :: 97 :: aa n) ++ [46, 97]
    rw [this]
    rfl
theorem step_aa (m : List Int) (hm : Opens m) : stepF (46 :: 97 :: m) = some (⟨2, [97], 0⟩, m) :=
  (stepF_app (xs := [46, 97]) (r := []) (x := ⟨2, [97], 0⟩) (by decide) hm).1
theorem steps_aa : ∀ (n g : Nat), 2 * n ≤ g → stepsF g (aa n) = some (List.replicate n ⟨2, [97], 0⟩)
  | 0, g, _ => by cases g <;> rfl
  | n + 1, g, h => by
    obtain ⟨g, rfl⟩ : ∃ g', g = g' + 1 := ⟨g - 1, by omega⟩
    show stepsF (g + 1) (46 :: 97 :: aa n) = _
    simp only [stepsF, step_aa _ (aa_opens n)]
    rw [steps_aa n g (by omega)]
    rfl
theorem parse_long (n : Nat) (doc : Bool) : ∃ l, l.length = n + (if doc then 1 else 0) ∧ parseF ((if doc then [64, 51] else []) ++ aa n) = if 32 < n + (if doc then 1 else 0) then ([], 10) else (l, 0) := by
  have hw : (List.replicate n (⟨2, [97], 0⟩ : Stp)).any wide = false := by
    rw [List.any_eq_false]
    intro x hx
    rw [(List.mem_replicate.1 hx).2]
    decide
  cases doc with
  | false =>
    refine ⟨List.replicate n ⟨2, [97], 0⟩, by simp, ?_⟩
    have hf : firstF (aa n) = some ([], aa n) := by
      cases n with
      | zero => rfl
      | succ n => rfl
    simp only [Bool.false_eq_true, if_false, List.nil_append, parseF, hf]
    rw [steps_aa n _ (by rw [aa_length]; exact Nat.le_refl _)]
    simp only [List.length_replicate, Nat.add_zero, hw, Bool.false_eq_true, or_false]
  | true =>
    refine ⟨⟨1, [], 3⟩ :: List.replicate n ⟨2, [97], 0⟩, by simp, ?_⟩
    have hf : firstF ([64, 51] ++ aa n) = some ([⟨1, [], 3⟩], [] ++ aa n) := firstF_app (by decide) (aa_opens n) (by simp)
    simp only [if_true, parseF, hf, List.nil_append]
    rw [steps_aa n _ (by rw [aa_length]; exact Nat.le_refl _)]
    have hw1 : wide (⟨1, [], 3⟩ : Stp) = false := by decide
    simp only [List.singleton_append, List.length_cons, List.length_replicate, List.any_cons, hw, hw1, Bool.or_false, Bool.false_eq_true, or_false]
theorem takeQ_blanks : ∀ (n : Nat) (f : Nat) (out : List Int) (i : Nat), n < f → takeQ f out i (List.replicate n 32 ++ [34]) = some (out ++ List.replicate n 32, i + n + 1)
  | 0, f, out, i, h => by
    obtain ⟨f, rfl⟩ : ∃ f', f = f' + 1 := ⟨f - 1, by omega⟩
    simp [takeQ]
  | n + 1, f, out, i, h => by
    obtain ⟨f, rfl⟩ : ∃ f', f = f' + 1 := ⟨f - 1, by omega⟩
    rw [List.replicate_succ, List.cons_append]
    simp only [takeQ]
    rw [if_neg (by decide), if_neg (by decide), if_neg (by decide), takeQ_blanks n f _ _ (by omega)]
    simp [List.append_assoc]
    omega
theorem parse_key (n : Nat) : parseF (46 :: 34 :: (List.replicate n 32 ++ [34])) = if 128 < n then ([], 10) else ([⟨2, List.replicate n 32, 0⟩], 0) := by
  have ht : takeD (34 :: (List.replicate n 32 ++ [34])) = some (List.replicate n 32, n + 2) := by
    simp only [takeD]
    rw [takeQ_blanks n _ _ _ (by simp; omega)]
    simp
    omega
  have hs : stepF (46 :: 34 :: (List.replicate n 32 ++ [34])) = some (⟨2, List.replicate n 32, 0⟩, []) := by
    simp only [stepF]
    rw [if_neg (by decide), if_neg (by decide), if_pos trivial, ht]
    simp
  have hl : (46 :: 34 :: (List.replicate n (32 : Int) ++ [34])).length = n + 2 + 1 := by simp
  simp only [parseF, firstF]
  rw [hl]
  simp only [stepsF, hs]
  simp [wide]
end Go.Proofs.YtllgfccckcgekaaDoor
