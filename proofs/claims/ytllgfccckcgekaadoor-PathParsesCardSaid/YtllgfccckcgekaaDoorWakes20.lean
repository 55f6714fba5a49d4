/- The example of chapter 20: it answers true. No condition. -/
import Derived.Test.YtllgfccckcgekaaDoorParse
namespace Go.Proofs.YtllgfccckcgekaaDoor
set_option maxRecDepth 100000
set_option maxHeartbeats 4000000
open Go.RowKit Go.Proofs.YtllgfccckcgekaaDoorW.PrintWords Go.Proofs.YtllgfccckcgekaaDoorW.PrintLast Go.Proofs.YtllgfccckcgekaaDoorW.PrintMore

/-- Where the steps of a row of the call's own lie. -/
theorem stps_flat {w : World} {base : Nat} {ok : Nat → Prop} {v : Value} {xs : List Stp} (h : kStp.R 27 w base ok v xs) (hn : xs ≠ []) : ∃ g c, v = .slice (some ⟨g, 0, none⟩) xs.length c ∧ xs.length ≤ c ∧ g < w.heap.size ∧ ∀ (j : Nat) x, xs[j]? = some x → w.cell? ⟨g, j * 3, none⟩ = some (.int .i64 x.kind) ∧ w.cell? ⟨g, j * 3 + 1, none⟩ = some (.string (strOfNums x.name)) ∧ w.cell? ⟨g, j * 3 + 2, none⟩ = some (.int .i64 x.n) := by
  obtain ⟨A, c, rfl, hle, hC⟩ := Kd.R_reads h
  obtain ⟨-, inner, ho, -⟩ := h
  have hlen : 0 < xs.length := List.length_pos_iff.2 hn
  rcases ho.2 with ⟨he, h0⟩ | ⟨g, cap, cur, he, hb, hh, r⟩
  · omega
  · obtain ⟨rfl, -, -⟩ := Value.slice.inj he
    refine ⟨g, c, rfl, hle, blk_lt hh, fun j x hj => ?_⟩
    have hjl : j < xs.length := (List.getElem?_eq_some_iff.1 hj).1
    obtain ⟨ad, x', e, hx', e0, e1, e2⟩ := stp_at hC j hjl
    cases e
    rw [hj] at hx'
    cases hx'
    rw [add_plain] at e0 e1 e2
    exact ⟨e0, e1, e2⟩
def pathEx : List Stp := [⟨1, [], 1⟩, ⟨2, [97], 0⟩, ⟨3, [], 2⟩, ⟨5, [], 0⟩]
theorem wakes20_calls (w : World) : Calls Tryd.prog 22 #[] w fun e w' => e = .returned (.bool true) ∧ Below w.heap.size w w' := by
  have hp : parseF [64, 49, 46, 97, 91, 50, 93, 46, 46] = (pathEx, 0) := by decide
  have hc := Parse_calls ⟨#[64, 49, 46, 97, 91, 50, 93, 46, 46]⟩ w (by decide)
  rw [show bytesOf ⟨#[64, 49, 46, 97, 91, 50, 93, 46, 46]⟩ = [64, 49, 46, 97, 91, 50, 93, 46, 46] from rfl] at hc
  unfold ParsePost at hc
  rw [hp] at hc
  have HC := Aside0.mk hc
  clear hp hc
  go_enter Tryd.func22, Tryd.ntmps22
  go_wp2_with fail
  refine HC.out.mono ?_
  rintro e w1 ⟨⟨v, rfl, hR⟩, hb⟩
  obtain ⟨g, c, rfl, hle, -, hcell⟩ := stps_flat hR (by simp [pathEx])
  have k0 := (hcell 0 _ rfl).2.2
  have k1 := (hcell 1 _ rfl).2.1
  have k2 := (hcell 2 _ rfl).2.2
  have k3 := (hcell 3 _ rfl).1
  rw [show strOfNums [97] = ⟨#[97]⟩ from rfl] at k1
  rw [show pathEx.length = 4 from rfl]
  clear hcell hR
  go_wp2
  go_ret
  exact ⟨rfl, hb⟩
end Go.Proofs.YtllgfccckcgekaaDoor
