/- The walk of PathParses: it answers true. Conditions: the arguments are read; their numbers are ints. -/
import Derived.Test.YtllgfccckcgekaaDoorWakes20
import Derived.Test.YtllgfccckcgekaaDoorRefP
import Derived.Test.YtllgfccckcgekaaDoorText20
namespace Go.Proofs.YtllgfccckcgekaaDoor
set_option maxRecDepth 100000
set_option maxHeartbeats 8000000
open Go.RowKit Go.Proofs.YtllgfccckcgekaaDoorW.PrintWords Go.Proofs.YtllgfccckcgekaaDoorW.PrintLast Go.Proofs.YtllgfccckcgekaaDoorW.PrintMore

theorem walk_pathParses (s : ByteArray) (A : Option Addr) (n c : Nat) (xs : List Int) (raw : Bool) (hs : s.size ≤ 9223372036854775807) (w : World)
    (hx : (Kd.int .i64).C w A n xs) (ix : ∀ x ∈ xs, I64 x) :
    Calls Tryd.prog 17 #[.string s, .slice A n c, .bool raw] w fun e w' => e = .returned (.bool true) ∧ Below w.heap.size w w' := by
  have HX := Aside0.mk hx
  have IX := Aside0.mk ix
  clear hx ix
  go_enter Tryd.func17, Tryd.ntmps17
  go_wp2_with fail
  refine (Text20_calls s A n c xs raw w HX.out IX.out hs).mono ?_
  rintro e w1 ⟨⟨T, rfl, hT⟩, hb1⟩
  have HB1 := Aside0.mk hb1
  clear hb1
  go_wp2_with fail
  refine (Parse_calls T w1 (by omega)).mono ?_
  rintro e w3 ⟨⟨v3, rfl, hR3⟩, hb3⟩
  have HB3 := Aside0.mk (below_step HB1.out hb3)
  clear hb3 HB1
  go_wp2_with fail
  refine (ParsePath_calls T w3 (by omega)).mono ?_
  rintro e w4 ⟨⟨v4, rfl, hR4⟩, hb4⟩
  have HB4 := Aside0.mk (below_step HB3.out hb4)
  have hR3' := Kd.R_below hR3 hb4
  clear hb4 HB3 hR3
  obtain ⟨p, hp⟩ : ∃ p, parseF (bytesOf T) = p := ⟨_, rfl⟩
  obtain ⟨x, e1⟩ := p
  rw [hp] at hR3' hR4 ⊢
  obtain ⟨A3, c3, rfl, hl3, hC3⟩ := Kd.R_reads hR3'
  obtain ⟨A4, c4, rfl, hl4, hC4⟩ := Kd.R_reads hR4
  have HC3 := Aside0.mk hC3
  have HC4 := Aside0.mk hC4
  have hxl := hC3.2.1
  clear hp hR3' hR4 hC3 hC4
  go_wp2_with fail
  go_loopw [39, 12] (fun i _ wr => ∃ k : Nat, k ≤ x.length ∧ i = .int .i64 k ∧ Aside0 (Below w.heap.size w wr) ∧ Aside0 (Below w4.heap.size w4 wr)) (fun i _ _ => x.length - (intOf i).toNat)
  case atStart => exact ⟨0, by omega, rfl, HB4, ⟨Below.refl _ _⟩⟩
  case round =>
    obtain ⟨k, hk, rfl, HB, HB'⟩ := hrel
    by_cases hl : k < x.length
    · obtain ⟨ad, y, rfl, hx, e0, e1, e2⟩ := stp_at (Kd.C_below HC3.out HB'.out) k hl
      obtain ⟨ad', y', rfl, hx', e0', e1', e2'⟩ := stp_at (Kd.C_below HC4.out HB'.out) k hl
      rw [hx] at hx'
      cases hx'
      clear hx
      go_wp2_with fail
      go_quiet (fail)
      go_wp2_with fail
      go_roundw
      case rel => exact ⟨k + 1, by omega, by go_num, ⟨below_dN HB.out _⟩, ⟨below_dN HB'.out _⟩⟩
      case measure => simp [intOf]; omega
    · obtain rfl : k = x.length := by omega
      go_wp2_with (go_at_call 22; refine (wakes20_calls _).mono ?_; rintro e w5 ⟨rfl, hb5⟩)
      go_ret
      exact ⟨rfl, below_step HB.out hb5⟩
end Go.Proofs.YtllgfccckcgekaaDoor
