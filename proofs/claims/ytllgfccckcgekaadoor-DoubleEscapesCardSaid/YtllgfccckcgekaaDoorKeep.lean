/- What Within and Text of scholiumkeep compute. Condition: Within is asked of 1 and more. -/
import Derived.Test.YtllgfccckcgekaaDoorM
import Derived.Lib.Strings
namespace Go.Proofs.YtllgfccckcgekaaDoor
set_option maxRecDepth 100000
set_option maxHeartbeats 1000000
open Go.RowKit Go.Proofs.YtllgfccckcgekaaDoorW.PrintWords Go.Proofs.YtllgfccckcgekaaDoorW.PrintLast Go.Proofs.YtllgfccckcgekaaDoorW.PrintMore

theorem Within_calls (v n : Int) (w : World) (h1 : 1 ≤ n) (h2 : n ≤ 1000000000) (hv : -9223372036854775808 ≤ v ∧ v ≤ 9223372036854775807) :
    Calls Tryd.prog 23 #[.int .i64 v, .int .i64 n] w fun e w' => e = .returned (.int .i64 (v % n)) ∧ w = w' := by
  have hl := Int.tmod_lt_of_pos v (show 0 < n by omega)
  have hg := Int.lt_tmod_of_pos v (show 0 < n by omega)
  have he : v % n = if v.tmod n < 0 then v.tmod n + n else v.tmod n := by
    have hd := Int.mul_tdiv_add_tmod v n
    split
    · have e : v % n = ((v.tmod n + n) + n * (v.tdiv n - 1)) % n := congrArg (· % n) (by rw [Int.mul_sub, Int.mul_one]; omega)
      rw [e, Int.add_mul_emod_self_left, Int.emod_eq_of_lt (by omega) (by omega)]
    · have e : v % n = (v.tmod n + n * (v.tdiv n)) % n := congrArg (· % n) (by omega)
      rw [e, Int.add_mul_emod_self_left, Int.emod_eq_of_lt (by omega) (by omega)]
  have HE := Aside0.mk he
  clear he
  obtain ⟨hv1, hv2⟩ := hv
  by_cases hn : v.tmod n < 0
  · go_enter Tryd.func23, Tryd.ntmps23
    go_wp2
    go_ret
    exact ⟨by rw [HE.out, if_pos hn]; rfl, rfl⟩
  · go_enter Tryd.func23, Tryd.ntmps23
    go_wp2
    go_ret
    exact ⟨by rw [HE.out, if_neg (by omega)]; rfl, rfl⟩

def textF (s : ByteArray) (n : Nat) : ByteArray := s.extract 0 (min s.size n)
theorem bytesOf_extract (s : ByteArray) (i j : Nat) : bytesOf (s.extract i j) = ((bytesOf s).take j).drop i := by
  unfold bytesOf
  rw [Lib.extract_data, List.map_take, List.map_drop, List.drop_take]
theorem bytesOf_textF (s : ByteArray) (n : Nat) : bytesOf (textF s n) = (bytesOf s).take n := by
  unfold textF
  rw [bytesOf_extract, List.drop_zero]
  rcases Nat.le_total s.size n with h | h
  · rw [Nat.min_eq_left h, List.take_of_length_le (by rw [bytesOf_length]; omega), List.take_of_length_le (by rw [bytesOf_length]; omega)]
  · rw [Nat.min_eq_right h]
attribute [local go_sem] min2_int
theorem Text_calls (s : ByteArray) (n : Int) (w : World) (h1 : 0 ≤ n) (hs : s.size ≤ 9223372036854775807) :
    Calls Tryd.prog 24 #[.string s, .int .i64 n] w fun e w' => e = .returned (.string (textF s n.toNat)) ∧ Below w.heap.size w w' := by
  go_enter Tryd.func24, Tryd.ntmps24
  go_wp2
  · go_ret
    refine ⟨?_, Below.refl _ _⟩
    rw [show textF s n.toNat = s.extract 0 n.toNat by unfold textF; rw [Nat.min_eq_right (by omega)]]
    rfl
  · go_ret
    refine ⟨?_, Below.refl _ _⟩
    rw [show textF s n.toNat = s by unfold textF; rw [Nat.min_eq_left (by omega)]; simp]
    rfl
end Go.Proofs.YtllgfccckcgekaaDoor
