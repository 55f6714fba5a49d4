/- A map literal whose keys are computed: its operations, step by step; one of eight letters. No condition. -/
import Derived.Test.YtllgfccckcgekaaDoorMapLit
import Derived.Test.YtllgfccckcgekaaDoorTail5
namespace Go.Proofs.YtllgfccckcgekaaDoor
set_option maxRecDepth 100000
set_option maxHeartbeats 4000000
open Go.RowKit Go.Proofs.YtllgfccckcgekaaDoorW.PrintWords Go.Proofs.YtllgfccckcgekaaDoorW.PrintLast Go.Proofs.YtllgfccckcgekaaDoorW.PrintMore

def letters8 : List Int := [97, 98, 99, 100, 101, 102, 103, 104]
def abc8 : ByteArray := ⟨#[97, 98, 99, 100, 101, 102, 103, 104]⟩
/-- One of the eight letters. -/
theorem letter_cut (j : Nat) (h : j < 8) : ∃ X la : ByteArray, (∀ W : World, (Instr.slice 9 (.string ⟨#[97, 98, 99, 100, 101, 102, 103, 104]⟩) (some (.int .i64 (j : Int))) none none).run Tryd.prog W = .ok (.string X) W) ∧
    (∀ W : World, (Instr.slice 9 (.string X) none (some (.int .i64 1)) none).run Tryd.prog W = .ok (.string la) W) ∧ ∃ c ∈ letters8, bytesOf la = [c] := by
  have hc : j = 0 ∨ j = 1 ∨ j = 2 ∨ j = 3 ∨ j = 4 ∨ j = 5 ∨ j = 6 ∨ j = 7 := by omega
  rcases hc with rfl | rfl | rfl | rfl | rfl | rfl | rfl | rfl
  · exact ⟨⟨#[97, 98, 99, 100, 101, 102, 103, 104]⟩, ⟨#[97]⟩, fun W => rfl, fun W => rfl, 97, by decide, rfl⟩
  · exact ⟨⟨#[98, 99, 100, 101, 102, 103, 104]⟩, ⟨#[98]⟩, fun W => rfl, fun W => rfl, 98, by decide, rfl⟩
  · exact ⟨⟨#[99, 100, 101, 102, 103, 104]⟩, ⟨#[99]⟩, fun W => rfl, fun W => rfl, 99, by decide, rfl⟩
  · exact ⟨⟨#[100, 101, 102, 103, 104]⟩, ⟨#[100]⟩, fun W => rfl, fun W => rfl, 100, by decide, rfl⟩
  · exact ⟨⟨#[101, 102, 103, 104]⟩, ⟨#[101]⟩, fun W => rfl, fun W => rfl, 101, by decide, rfl⟩
  · exact ⟨⟨#[102, 103, 104]⟩, ⟨#[102]⟩, fun W => rfl, fun W => rfl, 102, by decide, rfl⟩
  · exact ⟨⟨#[103, 104]⟩, ⟨#[103]⟩, fun W => rfl, fun W => rfl, 103, by decide, rfl⟩
  · exact ⟨⟨#[104]⟩, ⟨#[104]⟩, fun W => rfl, fun W => rfl, 104, by decide, rfl⟩

theorem bz_lit (l : List UInt8) : bytesOf ⟨l.toArray⟩ = l.map fun b => (b.toNat : Int) := by simp [bytesOf]
section
variable {t B last : Nat} {E : List (ByteArray × Int)} {ev : Operand → Value}
theorem run_add {o : Oper} {x y : Operand} {u : TypeId} {s r : ByteArray} (hop : o.op = .binOp .add 9 x y u) (hx : ev x = .string s) (hy : ev y = .string r) (hz : s.size + r.size ≤ 9223372036854775807) (w : World) : (execOp ev o).run Tryd.prog w = .ok (.value (.string (s ++ r))) w := by
  have hz' : ¬ (9223372036854775807 < s.size + r.size) := by omega
  simp [execOp, hop, hx, hy, go_sem, hz']
theorem AllSteps.cons {P : Program} {i : Nat} {o : Oper} {os : List Oper} {v : Value} {vs : List Value} (h : StepOk P t B last E ev i o v) (hs : AllSteps P t B last E ev (i + 1) os vs) : AllSteps P t B last E ev i (o :: os) (v :: vs) := ⟨h, hs⟩
theorem AllSteps.nil {P : Program} {i : Nat} : AllSteps P t B last E ev i [] [] := trivial
theorem step_mk {o : Oper} (h : o.op = .makeMap t none) : StepOk Tryd.prog t B last E ev 0 o (.map (some B)) := by
  unfold StepOk
  rw [if_pos rfl]
  exact ⟨h, rfl⟩
theorem step_pure {i : Nat} {o : Oper} {v : Value} (h0 : i ≠ 0) (hl : i ≠ last) (h : ∀ w, (execOp ev o).run Tryd.prog w = .ok (.value v) w) : StepOk Tryd.prog t B last E ev i o v := by
  unfold StepOk
  rw [if_neg h0, if_neg hl]
  exact .inl h
theorem step_ins {i : Nat} {o : Oper} {v : Value} {m x y : Operand} {key : ByteArray} {val : Int} (h0 : i ≠ 0) (hl : i ≠ last) (hd : o.dst = none) (hop : o.op = .insert t m x y) (hm : ev m = .map (some B)) (hx : ev x = .string key) (hy : ev y = .int .i64 val)
    (hc : o.after.any (fun c => c.on == 0 && (match c.ground with | .data => true | _ => false)) = true) (hE : (key, val) ∈ E) (hk : key.size ≤ maxLen) (hw : (Lit.int .i64 val).wf = true) : StepOk Tryd.prog t B last E ev i o v := by
  unfold StepOk
  rw [if_neg h0, if_neg hl]
  obtain ⟨c, hc1, hc2⟩ := Array.any_eq_true'.1 hc
  simp only [Bool.and_eq_true, beq_iff_eq] at hc2
  refine .inr ⟨hd, ⟨c, hc1, hc2.1, ?_⟩, m, x, y, key, val, hop, hm, hx, hy, hE, hk, hw⟩
  revert hc2
  cases c.ground <;> simp
theorem step_rng {i : Nat} {o : Oper} {x : Operand} (h0 : i ≠ 0) (hl : i = last) (hop : o.op = .range t x) (hx : ev x = .map (some B)) (hc : o.after.any (fun c => c.on + 1 == last && (match c.ground with | .data => true | _ => false)) = true) : StepOk Tryd.prog t B last E ev i o (.pointer (some ⟨B + 1, 0, none⟩)) := by
  unfold StepOk
  rw [if_neg h0, if_pos hl]
  obtain ⟨c, hc1, hc2⟩ := Array.any_eq_true'.1 hc
  simp only [Bool.and_eq_true, beq_iff_eq] at hc2
  refine ⟨⟨x, hop, hx⟩, rfl, c, hc1, hc2.1, ?_⟩
  revert hc2
  cases c.ground <;> simp
end
end Go.Proofs.YtllgfccckcgekaaDoor
