/- What scholiumkeep.Same and Copy of steps compute (Same: of two lists that are alike). No condition. -/
import Derived.Test.YtllgfccckcgekaaDoorParse
namespace Go.Proofs.YtllgfccckcgekaaDoor
set_option maxRecDepth 100000
set_option maxHeartbeats 4000000
open Go.RowKit Go.Proofs.YtllgfccckcgekaaDoorW.PrintWords Go.Proofs.YtllgfccckcgekaaDoorW.PrintLast Go.Proofs.YtllgfccckcgekaaDoorW.PrintMore

theorem SameS_calls (A B : Option Addr) (n c d : Nat) (xs : List Stp) (w : World) (ha : kStp.C w A n xs) (hb : kStp.C w B n xs) :
    Calls Tryd.prog 38 #[.slice A n c, .slice B n d] w fun e w' => e = .returned (.bool true) ∧ Below w.heap.size w w' := by
  have HA := Aside0.mk ha
  have HBB := Aside0.mk hb
  have hl1 := ha.1
  have hl2 := ha.2.1
  clear ha hb
  go_enter Tryd.func38, Tryd.ntmps38
  go_wp2_with fail
  go_loopw [5] (fun i wr => ∃ k : Nat, k ≤ n ∧ i = .int .i64 k ∧ Aside0 (Below w.heap.size w wr)) (fun i _ => n - (intOf i).toNat)
  case atStart => exact ⟨0, by omega, rfl, ⟨Below.refl _ _⟩⟩
  case round =>
    obtain ⟨k, hk, rfl, HB⟩ := hrel
    by_cases hl : k < n
    · obtain ⟨ad, x, rfl, hx, e0, e1, e2⟩ := stp_at (Kd.C_below HA.out HB.out) k hl
      obtain ⟨ad', x', rfl, hx', e0', e1', e2'⟩ := stp_at (Kd.C_below HBB.out HB.out) k hl
      rw [hx] at hx'
      cases hx'
      clear hx
      go_wp2_with fail
      go_quiet (fail)
      go_wp2_with fail
      go_roundw
      case rel => exact ⟨k + 1, by omega, by go_num, ⟨below_dN HB.out _⟩⟩
      case measure => simp [intOf]; omega
    · obtain rfl : k = n := by omega
      go_wp2
      go_ret
      exact ⟨rfl, HB.out⟩
theorem CopyS_calls (A : Option Addr) (n c : Nat) (xs : List Stp) (w : World) (hg : kStp.C w A n xs) (hn : n ≤ 1000001) :
    Calls Tryd.prog 62 #[.slice A n c] w fun e w' => ∃ v, e = .returned v ∧ kStp.R 27 w' w.heap.size (fun _ => True) v xs ∧ Below w.heap.size w w' := by
  have HG := Aside0.mk hg
  clear hg
  go_enter Tryd.func62, Tryd.ntmps62
  go_wp2_with (at_builtin; refine Kd.R_append_rows (w0 := w) kStp (Rr := kStp.K w) w.heap.size rfl (.const (.slice none 0 0)) (.tmp 3) 22 27 (.agg #[.int .i64 0, .string ⟨#[]⟩, .int .i64 0]) 32 rfl Tryd.underlying22 info27 rfl (by decide) (by decide) (.slice none 0 0) [] xs A n c (fun _ => True) (fun _ => False) rfl rfl (Kd.R_nil _ _ _ _ _) HG.out (fun x cs h => kStp_M.2 (kStp_K.1 h)) (fun _ h => h.elim) (fun _ _ => trivial) (Below.refl _ _) (Nat.le_refl _) (by simp; omega) ?_; intro v1 w1 hR1 hB1 hg1 hat1)
  go_ret
  exact ⟨v1, rfl, hR1, hB1⟩
end Go.Proofs.YtllgfccckcgekaaDoor
