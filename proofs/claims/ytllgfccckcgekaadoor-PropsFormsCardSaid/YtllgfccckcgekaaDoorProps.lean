/- What the package props computes: add, Take. Conditions: texts of at most 1000000 bytes. -/
import Derived.Test.YtllgfccckcgekaaDoorStr
namespace Go.Proofs.YtllgfccckcgekaaDoor
set_option maxRecDepth 100000
set_option maxHeartbeats 1000000
open Go.RowKit Go.Proofs.YtllgfccckcgekaaDoorW.PrintWords Go.Proofs.YtllgfccckcgekaaDoorW.PrintLast Go.Proofs.YtllgfccckcgekaaDoorW.PrintMore

/-- A word is added to a tag and an anchor; none: it may not be. -/
def addF (t a word : List Int) : Option (List Int × List Int) :=
  if hasPre word [38] then (if a.isEmpty && nameF (cutPre word [38]) then some (t, cutPre word [38]) else none)
  else if t.isEmpty && tagF word then some (word, a) else none

/-- Props at block g. -/
def PropsAt (w : World) (g : Nat) (t a : ByteArray) : Prop := w.heap[g]? = some (.cells #[.string t, .string a] 56 (0, 0))
def AddPost (g : Nat) (w : World) (B : Nat) (t a word : ByteArray) (e : Ending) (w' : World) : Prop :=
  ∃ (b : Bool) (t' a' : ByteArray), e = .returned (.bool b) ∧ PropsAt w' g t' a' ∧ Below B w w' ∧ (match addF (bytesOf t) (bytesOf a) (bytesOf word) with | some (x, y) => b = true ∧ bytesOf t' = x ∧ bytesOf a' = y | none => b = false)

theorem PropsAt.below {w w1 : World} {g : Nat} {t a : ByteArray} (h : PropsAt w g t a) (hb : Below w.heap.size w w1) : PropsAt w1 g t a := (hb.block g (blk_lt h)).trans h
theorem PropsAt.set0 {w : World} {g : Nat} {t a : ByteArray} (h : PropsAt w g t a) (u : ByteArray) : PropsAt (w.setCell ⟨g, 0, none⟩ (.string u)) g u a := blk_set h 0 _
theorem PropsAt.set1 {w : World} {g : Nat} {t a : ByteArray} (h : PropsAt w g t a) (u : ByteArray) : PropsAt (w.setCell ⟨g, 1, none⟩ (.string u)) g t u := blk_set h 1 _
theorem add_no {g B : Nat} {w w' : World} {t a word : ByteArray} (h : addF (bytesOf t) (bytesOf a) (bytesOf word) = none) (hp : PropsAt w' g t a) (hb : Below B w w') : AddPost g w B t a word (.returned (.bool false)) w' :=
  ⟨false, t, a, rfl, hp, hb, by rw [h]⟩
theorem add_yes {g B : Nat} {w w' : World} {t a word t' a' : ByteArray} (h : addF (bytesOf t) (bytesOf a) (bytesOf word) = some (bytesOf t', bytesOf a')) (hp : PropsAt w' g t' a') (hb : Below B w w') : AddPost g w B t a word (.returned (.bool true)) w' :=
  ⟨true, t', a', rfl, hp, hb, by rw [h]; exact ⟨rfl, rfl, rfl⟩⟩
theorem add_calls (g B : Nat) (t a word : ByteArray) (w : World) (hg : PropsAt w g t a) (hB : B ≤ g) (hs : word.size ≤ 1000000) :
    Calls Tryd.prog 80 #[.pointer (some ⟨g, 0, none⟩), .string word] w (AddPost g w B t a word) := by
  have hlt : g < w.heap.size := blk_lt hg
  have c0 : w.cell? ⟨g, 0, none⟩ = some (.string t) := (blk_cell hg 0).trans rfl
  have c1 : w.cell? ⟨g, 1, none⟩ = some (.string a) := (blk_cell hg 1).trans rfl
  have f0 := blk_frozen hg 0
  have f1 := blk_frozen hg 1
  have HG := Aside0.mk hg
  have hp : bytesOf ⟨#[38]⟩ = [38] := rfl
  have cc := SCutPrefix_calls word ⟨#[38]⟩ w
  rw [hp] at cc
  have C1 := Aside0.mk cc
  have HL := Aside0.mk (bytesOf_length word)
  have HE := Aside0.mk (isEmpty_toList a)
  have HT := Aside0.mk (isEmpty_toList t)
  clear cc hp hg
  cases h1 : hasPre (bytesOf word) [38] with
  | true =>
    rw [h1] at C1
    have H1 := Aside0.mk h1
    clear h1
    by_cases he : (bytesOf a).isEmpty = true
    · have hae : a.toList.isEmpty = true := by rw [HE.out]; exact he
      have HEE := Aside0.mk he
      clear he
      go_enter Tryd.func80, Tryd.ntmps80
      go_wp2_with (go_at_call 109; refine C1.out.mono ?_; rintro e w' ⟨r, rfl, hr, rfl⟩; have HR := Aside0.mk hr; clear hr)
      have c2 := Name_calls r w (by rw [← bytesOf_length, HR.out]; have := cutPre_length (bytesOf word) [38]; have := HL.out; omega)
      rw [HR.out] at c2
      cases hn : nameF (cutPre (bytesOf word) [38]) with
      | true =>
        rw [hn] at c2
        refine c2.mono ?_
        clear c2
        rintro e w2 ⟨rfl, hb2⟩
        have hg2 := HG.out.below hb2
        have d1 : w2.cell? ⟨g, 1, none⟩ = some (.string a) := (blk_cell hg2 1).trans rfl
        have e1 := blk_frozen hg2 1
        have HG2 := Aside0.mk hg2
        have HN := Aside0.mk hn
        clear hg2 hn
        go_wp2
        go_ret
        exact add_yes (t' := t) (a' := r) (by simp [addF, H1.out, HEE.out, HN.out, HR.out]) (HG2.out.set1 r) ((hb2.mono (by omega)).setCell hB _)
      | false =>
        rw [hn] at c2
        refine c2.mono ?_
        clear c2
        rintro e w2 ⟨rfl, hb2⟩
        have HN := Aside0.mk hn
        clear hn
        go_wp2
        go_ret
        exact add_no (by simp [addF, H1.out, HN.out]) (HG.out.below hb2) (hb2.mono (by omega))
    · have hae : a.toList.isEmpty = false := by rw [HE.out]; exact Bool.eq_false_iff.2 he
      have HEE := Aside0.mk (Bool.eq_false_iff.2 he)
      clear he
      go_enter Tryd.func80, Tryd.ntmps80
      go_wp2_with (go_at_call 109; refine C1.out.mono ?_; rintro e w' ⟨r, rfl, hr, rfl⟩; have HR := Aside0.mk hr; clear hr)
      go_ret
      exact add_no (by simp [addF, H1.out, HEE.out]) HG.out (Below.refl _ _)
  | false =>
    rw [h1] at C1
    have H1 := Aside0.mk h1
    clear h1
    by_cases he : (bytesOf t).isEmpty = true
    · have hte : t.toList.isEmpty = true := by rw [HT.out]; exact he
      have HEE := Aside0.mk he
      clear he
      have c2 := ValidTag_calls word w (by omega)
      cases hn : tagF (bytesOf word) with
      | true =>
        rw [hn] at c2
        have C2 := Aside0.mk c2
        have HN := Aside0.mk hn
        clear hn c2
        go_enter Tryd.func80, Tryd.ntmps80
        go_wp2_with (first | (go_at_call 109; refine C1.out.mono ?_; rintro e w' ⟨r, rfl, hr, rfl⟩; have HR := Aside0.mk hr; clear hr) | (go_at_call 114; refine C2.out.mono ?_; rintro e w2 ⟨rfl, hb2⟩; have hg2 := HG.out.below hb2; have d1 : w2.cell? ⟨g, 0, none⟩ = some (.string t) := (blk_cell hg2 0).trans rfl; have e1 := blk_frozen hg2 0; have HG2 := Aside0.mk hg2; clear hg2))
        go_ret
        exact add_yes (t' := word) (a' := a) (by simp [addF, H1.out, HEE.out, HN.out]) (HG2.out.set0 word) ((hb2.mono (by omega)).setCell hB _)
      | false =>
        rw [hn] at c2
        have C2 := Aside0.mk c2
        have HN := Aside0.mk hn
        clear hn c2
        go_enter Tryd.func80, Tryd.ntmps80
        go_wp2_with (first | (go_at_call 109; refine C1.out.mono ?_; rintro e w' ⟨r, rfl, hr, rfl⟩; have HR := Aside0.mk hr; clear hr) | (go_at_call 114; refine C2.out.mono ?_; rintro e w2 ⟨rfl, hb2⟩))
        go_ret
        exact add_no (by simp [addF, H1.out, HN.out]) (HG.out.below hb2) (hb2.mono (by omega))
    · have hte : t.toList.isEmpty = false := by rw [HT.out]; exact Bool.eq_false_iff.2 he
      have HEE := Aside0.mk (Bool.eq_false_iff.2 he)
      clear he
      go_enter Tryd.func80, Tryd.ntmps80
      go_wp2_with (go_at_call 109; refine C1.out.mono ?_; rintro e w' ⟨r, rfl, hr, rfl⟩; have HR := Aside0.mk hr; clear hr)
      go_ret
      exact add_no (by simp [addF, H1.out, HEE.out]) HG.out (Below.refl _ _)
end Go.Proofs.YtllgfccckcgekaaDoor
