/- What Digit, letter, Name of the package chars compute. No condition. -/
import Derived.Test.YtllgfccckcgekaaDoorKeep
namespace Go.Proofs.YtllgfccckcgekaaDoor
set_option maxRecDepth 100000
set_option maxHeartbeats 1000000
open Go.RowKit Go.Proofs.YtllgfccckcgekaaDoorW.PrintWords Go.Proofs.YtllgfccckcgekaaDoorW.PrintLast Go.Proofs.YtllgfccckcgekaaDoorW.PrintMore

def digitF (c : Int) : Bool := decide (48 ≤ c) && decide (c ≤ 57)
theorem Digit_calls (c : Int) (w : World) : Calls Tryd.prog 138 #[.int .u8 c] w fun e w' => e = .returned (.bool (digitF c)) ∧ w = w' := by
  by_cases h1 : 48 ≤ c
  · go_enter Tryd.func138, Tryd.ntmps138
    go_wp2
    go_ret
    exact ⟨by simp [digitF, h1], rfl⟩
  · go_enter Tryd.func138, Tryd.ntmps138
    go_wp2
    go_ret
    exact ⟨by simp [digitF]; omega, rfl⟩

def letterF (c : Int) : Bool := (decide (97 ≤ c) && decide (c ≤ 122)) || (decide (65 ≤ c) && decide (c ≤ 90)) || digitF c || c == 45 || c == 95
theorem letter_calls (c : Int) (w : World) : Calls Tryd.prog 132 #[.int .u8 c] w fun e w' => e = .returned (.bool (letterF c)) ∧ w = w' := by
  go_enter Tryd.func132, Tryd.ntmps132
  go_wp2_with (go_at_call 138; refine (Digit_calls c _).mono ?_; rintro e w' ⟨rfl, rfl⟩)
  all_goals go_ret
  all_goals
    have key : ∀ b, b = letterF c → Ending.returned (.bool b) = Ending.returned (.bool (letterF c)) := fun _ h => by rw [h]
    refine ⟨key _ ?_, rfl⟩
    unfold letterF
    grind

def nameF (xs : List Int) : Bool := xs.all letterF && decide (1 ≤ xs.length) && decide (xs.length ≤ 32)
theorem size_zero_toList {s : ByteArray} (h : s.size = 0) : s = ⟨#[]⟩ := by
  apply ByteArray.ext
  exact Array.eq_empty_of_size_eq_zero h
theorem rd_all {xs : List Int} {k : Nat} (h : k < xs.length) (hf : letterF (rd xs k) = false) : xs.all letterF = false := by
  rw [List.all_eq_false]
  refine ⟨rd xs k, ?_, by simp [hf]⟩
  simp only [rd, Int.toNat_natCast, List.getD_eq_getElem?_getD, List.getElem?_eq_getElem h, Option.getD_some]
  exact List.getElem_mem h
theorem all_snoc {xs : List Int} {k : Nat} (h : k < xs.length) (ha : (xs.take k).all letterF = true) (hf : letterF (rd xs k) = true) : (xs.take (k + 1)).all letterF = true := by
  rw [List.take_succ_eq_append_getElem h, List.all_append, ha]
  simp only [rd, Int.toNat_natCast, List.getD_eq_getElem?_getD, List.getElem?_eq_getElem h, Option.getD_some] at hf
  simp [hf]

theorem Name_calls (s : ByteArray) (w : World) (hs : s.size ≤ 9223372036854775807) : Calls Tryd.prog 103 #[.string s] w fun e w' => e = .returned (.bool (nameF (bytesOf s))) ∧ Below w.heap.size w w' := by
  have LB := Aside0.mk (bytesOf_length s)
  go_enter Tryd.func103, Tryd.ntmps103
  go_wp2_with (with_reducible refine wpList_bytes (o := ⟨some 6, _, _, _, _, _⟩) rfl (.tmp 5) rfl _ rfl hs ?_; intro B d W1 hd hC hb)
  have HC := Aside0.mk hC
  clear hC
  go_loop [8] (fun i => ∃ k : Nat, k ≤ s.size ∧ i = .int .i64 k ∧ Aside0 (((bytesOf s).take k).all letterF = true)) (fun i => s.size - (intOf i).toNat)
  case atStart => exact ⟨0, by omega, rfl, ⟨by simp⟩⟩
  case round =>
    obtain ⟨k, hk, rfl, ha⟩ := hrel
    by_cases hlt : k < s.size
    · obtain ⟨ad, rfl, hc⟩ := Kd.at_int HC.out k (by omega) (by omega)
      rw [Int.toNat_natCast] at hc
      cases hl : letterF (rd (bytesOf s) k) with
      | true =>
        have HL := Aside0.mk hl
        have hk := letter_calls (rd (bytesOf s) k) W1
        rw [hl] at hk
        have HK := Aside0.mk hk
        clear hl hk
        go_wp2_with (go_at_call 132; refine HK.out.mono ?_; rintro e w' ⟨rfl, rfl⟩)
        refine ⟨⟨k + 1, by omega, by go_num, ⟨all_snoc (by rw [LB.out]; exact hlt) ha.out HL.out⟩⟩, by simp [intOf]; omega⟩
      | false =>
        have HL := Aside0.mk hl
        have hk := letter_calls (rd (bytesOf s) k) W1
        rw [hl] at hk
        have HK := Aside0.mk hk
        clear hl hk
        go_wp2_with (go_at_call 132; refine HK.out.mono ?_; rintro e w' ⟨rfl, rfl⟩)
        go_ret
        exact ⟨by simp [nameF, rd_all (by rw [LB.out]; exact hlt) HL.out], hb⟩
    · obtain rfl : k = s.size := by omega
      have hall : (bytesOf s).all letterF = true := by
        have := ha.out
        rwa [List.take_of_length_le (by rw [LB.out]; omega)] at this
      have HA := Aside0.mk hall
      clear hall
      by_cases h0 : s.size = 0
      · obtain rfl := size_zero_toList h0
        clear h0
        go_wp2
        go_ret
        exact ⟨rfl, hb⟩
      · have hne : s.toList.isEmpty = false := by
          rw [Lib.toList_data, List.isEmpty_eq_false_iff]
          intro h
          have := congrArg List.length h
          rw [data_length] at this
          exact h0 this
        go_wp2
        go_ret
        have key : ∀ b, b = nameF (bytesOf s) → Ending.returned (.bool b) = Ending.returned (.bool (nameF (bytesOf s))) := fun _ h => by rw [h]
        refine ⟨key _ ?_, hb⟩
        simp only [nameF, HA.out, LB.out]
        grind
end Go.Proofs.YtllgfccckcgekaaDoor
