/- What strings.CutPrefix, strings.TrimPrefix and props.ValidTag compute, said of lists of bytes. No condition. -/
import Derived.Test.YtllgfccckcgekaaDoorChars
import Derived.Test.YtllgfccckcgekaaDoorTail3
import Derived.Test.YtllgfccckcgekaaDoorShA
namespace Go.Proofs.YtllgfccckcgekaaDoor
set_option maxRecDepth 100000
set_option maxHeartbeats 1000000
open Go.RowKit Go.Proofs.YtllgfccckcgekaaDoorW.PrintWords Go.Proofs.YtllgfccckcgekaaDoorW.PrintLast Go.Proofs.YtllgfccckcgekaaDoorW.PrintMore

/-- The bytes of a list of letters as numbers. -/
def bz (l : List UInt8) : List Int := l.map fun b => (b.toNat : Int)
theorem bz_inj {l m : List UInt8} (h : bz l = bz m) : l = m := by
  induction l generalizing m with
  | nil => cases m <;> simp_all [bz]
  | cons a t ih =>
    cases m with
    | nil => simp [bz] at h
    | cons b s =>
      simp only [bz, List.map_cons, List.cons.injEq] at h
      have : a = b := UInt8.toNat_inj.1 (by omega)
      rw [this, ih h.2]
theorem bz_prefix (l m : List UInt8) : m.isPrefixOf l = (bz m).isPrefixOf (bz l) := by
  induction m generalizing l with
  | nil => rfl
  | cons a t ih =>
    cases l with
    | nil => rfl
    | cons b s =>
      have e : (a == b) = ((a.toNat : Int) == (b.toNat : Int)) := by
        rw [Bool.eq_iff_iff]
        simp only [beq_iff_eq]
        exact ⟨fun h => by rw [h], fun h => UInt8.toNat_inj.1 (by omega)⟩
      simp only [bz, List.map_cons, List.isPrefixOf_cons_cons, e]
      rw [ih s]
      rfl
theorem lib_hasPre (s p : ByteArray) : Lib.hasPrefix s.data.toList p.data.toList = hasPre (bytesOf s) (bytesOf p) := bz_prefix _ _
theorem lib_cutPre (s p : ByteArray) : bytesOf ⟨(Lib.trimPrefix s.data.toList p.data.toList).toArray⟩ = cutPre (bytesOf s) (bytesOf p) := by
  have h := lib_hasPre s p
  unfold Lib.trimPrefix cutPre
  rw [← h]
  split
  · simp [bytesOf, List.map_drop]
  · rfl
theorem SCutPrefix_calls (s p : ByteArray) (w : World) :
    Calls Tryd.prog 109 #[.string s, .string p] w fun e w' => ∃ r, e = .returned (.tuple #[.string r, .bool (hasPre (bytesOf s) (bytesOf p))]) ∧ bytesOf r = cutPre (bytesOf s) (bytesOf p) ∧ w = w' :=
  (Tryd.strings_CutPrefix s p w).mono fun _ _ ⟨he, hw⟩ => ⟨_, by rw [he, lib_hasPre], lib_cutPre s p, hw.symm⟩
theorem STrimPrefix_calls (s p : ByteArray) (w : World) :
    Calls Tryd.prog 140 #[.string s, .string p] w fun e w' => ∃ r, e = .returned (.string r) ∧ bytesOf r = cutPre (bytesOf s) (bytesOf p) ∧ w = w' :=
  (Tryd.strings_TrimPrefix s p w).mono fun _ _ ⟨he, hw⟩ => ⟨_, he, lib_cutPre s p, hw.symm⟩

def tagF (xs : List Int) : Bool := hasPre xs [33] && ((cutPre xs [33]).isEmpty || nameF (cutPre (cutPre xs [33]) [33]))
theorem isEmpty_toList (s : ByteArray) : s.toList.isEmpty = (bytesOf s).isEmpty := by
  rw [Lib.toList_data]
  unfold bytesOf
  cases s.data.toList <;> rfl
theorem cutPre_length (xs ys : List Int) : (cutPre xs ys).length ≤ xs.length := by
  unfold cutPre
  split
  · rw [List.length_drop]; omega
  · exact Nat.le_refl _

theorem ValidTag_calls (s : ByteArray) (w : World) (hs : s.size ≤ 9223372036854775807) : Calls Tryd.prog 114 #[.string s] w fun e w' => e = .returned (.bool (tagF (bytesOf s))) ∧ Below w.heap.size w w' := by
  have hp : bytesOf ⟨#[33]⟩ = [33] := rfl
  have c1 := SCutPrefix_calls s ⟨#[33]⟩ w
  rw [hp] at c1
  have C1 := Aside0.mk c1
  have hl := bytesOf_length s
  have HL := Aside0.mk hl
  clear c1 hp hl
  cases h1 : hasPre (bytesOf s) [33] with
  | false =>
    rw [h1] at C1
    have H1 := Aside0.mk h1
    clear h1
    go_enter Tryd.func114, Tryd.ntmps114
    go_wp2_with (go_at_call 109; refine C1.out.mono ?_; rintro e w' ⟨r, rfl, hr, rfl⟩)
    go_ret
    exact ⟨by simp [tagF, H1.out], Below.refl _ _⟩
  | true =>
    rw [h1] at C1
    have H1 := Aside0.mk h1
    clear h1
    by_cases he : (cutPre (bytesOf s) [33]).isEmpty = true
    · have HE := Aside0.mk he
      clear he
      go_enter Tryd.func114, Tryd.ntmps114
      go_wp2_with (go_at_call 109; refine C1.out.mono ?_; rintro e w' ⟨r, rfl, hr, rfl⟩; have hre : r.toList.isEmpty = true := (by rw [isEmpty_toList, hr]; exact HE.out); clear hr)
      go_ret
      exact ⟨by simp [tagF, H1.out, HE.out], Below.refl _ _⟩
    · have HE := Aside0.mk (Bool.eq_false_iff.2 he)
      clear he
      go_enter Tryd.func114, Tryd.ntmps114
      go_wp2_with (go_at_call 109; refine C1.out.mono ?_; rintro e w' ⟨r, rfl, hr, rfl⟩; have hre : r.toList.isEmpty = false := (by rw [isEmpty_toList, hr]; exact HE.out); have HR := Aside0.mk hr; clear hr)
      have c2 := STrimPrefix_calls r ⟨#[33]⟩ w
      rw [show bytesOf ⟨#[33]⟩ = [33] from rfl, HR.out] at c2
      refine c2.mono ?_
      clear c2
      rintro e w' ⟨r2, rfl, hr2, rfl⟩
      have hs2 : r2.size ≤ 9223372036854775807 := by
        rw [← bytesOf_length, hr2]
        have h1 := cutPre_length (cutPre (bytesOf s) [33]) [33]
        have h2 := cutPre_length (bytesOf s) [33]
        have h3 := HL.out
        omega
      have c3 := Name_calls r2 w hs2
      rw [hr2] at c3
      clear hr2
      go_wp2_with fail
      refine c3.mono ?_
      clear c3
      rintro e w2 ⟨rfl, hb⟩
      go_wp2
      go_ret
      exact ⟨by simp [tagF, H1.out, HE.out], hb⟩
end Go.Proofs.YtllgfccckcgekaaDoor
