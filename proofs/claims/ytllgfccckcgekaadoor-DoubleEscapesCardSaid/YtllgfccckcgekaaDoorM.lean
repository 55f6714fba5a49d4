/- Words on memory: slices of bytes that are read, cells of a row, cuts. No condition. -/
import Derived.Test.YtllgfccckcgekaaDoorProg
import Derived.Test.YtllgfccckcgekaaDoorWWords
import Derived.Test.YtllgfccckcgekaaDoorWLast
import Derived.Test.YtllgfccckcgekaaDoorWTab
import Derived.Test.YtllgfccckcgekaaDoorWFour
import Derived.Test.YtllgfccckcgekaaDoorWQPut
import Derived.Test.YtllgfccckcgekaaDoorWApart
import Derived.Test.YtllgfccckcgekaaDoorWArr
import Derived.Test.YtllgfccckcgekaaDoorWZeros
import Derived.Test.YtllgfccckcgekaaDoorWFoot
import Derived.Test.YtllgfccckcgekaaDoorWKept
import Derived.Test.YtllgfccckcgekaaDoorWShare
import Derived.Test.YtllgfccckcgekaaDoorWN
import Derived.Test.YtllgfccckcgekaaDoorWFootNe
import Derived.Test.YtllgfccckcgekaaDoorWAt
import Derived.Test.YtllgfccckcgekaaDoorWEqStruct
import Derived.Test.YtllgfccckcgekaaDoorWRepsOne
import Derived.Test.YtllgfccckcgekaaDoorWInv
import Derived.Test.YtllgfccckcgekaaDoorWInvWords
import Derived.Test.YtllgfccckcgekaaDoorWGuard
import Derived.Test.YtllgfccckcgekaaDoorWNEv
import Derived.Test.YtllgfccckcgekaaDoorWMore
import Derived.Laws.CopyOwn
import Derived.Outline
import Derived.Lib.SliceRun
namespace Go.Proofs.YtllgfccckcgekaaDoor
open Go.RowKit Go.Proofs.YtllgfccckcgekaaDoorW.PrintWords Go.Proofs.YtllgfccckcgekaaDoorW.PrintLast Go.Proofs.YtllgfccckcgekaaDoorW.PrintMore
theorem info5 : (Tryd.prog.info? 5).map (fun i => (i.zero, i.size, i.bytes)) = some (some (.int .u8 0), 1, 1) := by kernel_rfl

def zer (n : Nat) : List Value := List.replicate n (.int .u8 0)
theorem made_zer (n : Nat) : madeCells (Value.int .u8 0).cells n = (zer n).toArray := by
  apply Array.ext
  · simp [madeCells, zer]
  · intro i h1 h2
    simp [madeCells, zer, Value.cells, Nat.mod_one]

theorem size5 : (Tryd.prog.info? 5).map (·.size) = some 1 := by kernel_rfl
theorem C_cells {w : World} {k : IntKind} {A : Option Addr} {n : Nat} {xs : List Int} (h : (Kd.int k).C w A n xs) : xs.length = n ∧ (0 < n → ∃ ad, A = some ad ∧ ∀ j v, (nums k xs)[j]? = some v → w.cell? (ad.add j) = some v) := by
  obtain ⟨h1, h2, h3⟩ := Kd.reads_of_C (enc := Value.int k) (d := (0 : Int)) (h1 := fun _ => rfl) h
  refine ⟨h1, fun hn => ?_⟩
  obtain ⟨ad, e, hc⟩ := h3 hn
  refine ⟨ad, e, fun j v hv => ?_⟩
  have hj : j < xs.length := by
    have := (List.getElem?_eq_some_iff.1 hv).1
    simpa [nums] using this
  rw [hc j (by omega)]
  simp [nums, List.getElem?_map] at hv
  obtain ⟨x, hx, rfl⟩ := hv
  simp [List.getD, hx]
theorem nums_one (k : IntKind) (xs : List Int) : ∀ v ∈ nums k xs, v.oneCell' = true := by
  intro v hv
  obtain ⟨x, _, rfl⟩ := List.mem_map.1 hv
  rfl

theorem splice_zer (xs : List Int) (m : Nat) : splice (zer (xs.length + m)) 0 (nums .u8 xs) = nums .u8 (xs ++ List.replicate m 0) := by
  simp [splice, zer, nums]

theorem set_85 (xs : List Int) (k : Nat) (h : k < 3) : (nums .u8 (xs ++ (List.replicate k 85 ++ List.replicate (3 - k) 0))).toArray.setIfInBounds (xs.length + k) (.int .u8 85) = (nums .u8 (xs ++ (List.replicate (k + 1) 85 ++ List.replicate (3 - (k + 1)) 0))).toArray := by
  apply Array.ext'
  have : k = 0 ∨ k = 1 ∨ k = 2 := by omega
  rcases this with rfl | rfl | rfl <;> simp [nums, List.replicate_succ]

theorem cut5_from (A : Option Addr) (n c : Nat) (j : Int) (h0 : 0 ≤ j) (hm : j ≤ n) : ∀ W : World, (Instr.slice 36 (.slice A n c) (some (.int .i64 j)) none none).run Tryd.prog W = .ok (.slice (if c = j.toNat then A else A.map (·.add (j.toNat * 1))) (n - j.toNat) (c - j.toNat)) W := by
  obtain ⟨i0, hi0, hz0, hz1, hz2⟩ := info_parts info5
  exact cut_from 36 5 .i64 Tryd.underlying36 hi0 1 hz1 A n c j h0 hm

/-- A row of bytes of the call's own, known whole (what is behind its length too). -/
def Row8 (w : World) (base : Nat) (v : Value) (xs : List Int) : Prop :=
  (v = .slice none 0 0 ∧ xs = []) ∨ ∃ g zs, v = .slice (some ⟨g, 0, none⟩) xs.length (xs.length + zs.length) ∧ base ≤ g ∧ xs.length + zs.length ≤ maxLen ∧ w.heap[g]? = some (.cells (nums .u8 (xs ++ zs)).toArray 5 (0, 0))
theorem Row8.nil (w : World) (base : Nat) : Row8 w base (.slice none 0 0) [] := .inl ⟨rfl, rfl⟩
theorem Row8.R {w : World} {base : Nat} {v : Value} {xs : List Int} (h : Row8 w base v xs) : (Kd.int .u8).R 5 w base (fun _ => True) v xs := by
  rcases h with ⟨rfl, rfl⟩ | ⟨g, zs, rfl, hg, hm, hh⟩
  · exact Kd.R_nil _ _ _ _ _
  · refine Kd.R_of_own ⟨by simp [encs], .inr ⟨g, xs.length + zs.length, (nums .u8 (xs ++ zs)).toArray, rfl, hg, hh, by omega, hm, by simp [nums], ?_⟩⟩ (fun _ _ => trivial)
    simp [nums, encs]
theorem Row8.form {w : World} {base : Nat} {v : Value} {xs : List Int} (h : Row8 w base v xs) : ∃ A c, v = .slice A xs.length c ∧ xs.length ≤ c ∧ (Kd.int .u8).C w A xs.length xs := Kd.R_reads h.R
theorem Row8.below {w w1 : World} {base : Nat} {v : Value} {xs : List Int} (h : Row8 w base v xs) (hb : Below w.heap.size w w1) : Row8 w1 base v xs := by
  rcases h with h | ⟨g, zs, rfl, hg, hm, hh⟩
  · exact .inl h
  · exact .inr ⟨g, zs, rfl, hg, hm, (hb.block g (blk_lt hh)).trans hh⟩

/-- An append whose run is known. -/
theorem wpList_append_run {P : Program} {w w' : World} {ops : Array Oper} {rest : List Oper} {o : Oper} {a : Act} {Q : Exit → Act → World → Prop} {v' : Value} (hgd : o.guard = none) (s x : Operand) (t u : TypeId)
    (ho : o.op = .call { callee := .builtin .append, args := #[s, x], argTypes := #[t, u] }) (hrun : (Builtin.append_ #[t, u] o.type #[a.eval s, a.eval x]).run P w = .ok v' w')
    (h : wpList P ops Q rest (a.put o.dst v') w') : wpList P ops Q (o :: rest) a w :=
  wpList_plain hgd fun _ hK => by
    unfold Oper.wp execOp
    simp only [ho, resolve, invoke, builtin, Sem.run_bind, Sem.run_pure, Result.andThen_ok, List.map_toArray, List.map_cons, List.map_nil, hrun]
    exact hK _ _ h
theorem zeroCells_zer (n : Nat) : Builtin.zeroCells (Value.int .u8 0).cells n = (zer n).toArray := by
  apply Array.ext
  · simp [Builtin.zeroCells, zer, Value.cells]
  · intro i h1 h2
    simp [Builtin.zeroCells, zer, Value.cells, Nat.mod_one]

theorem conv_C (W : World) (s : ByteArray) (hs : s.size ≤ 9223372036854775807) : (Kd.int .u8).C (Lib.bytesWorld W 5 s) (some ⟨W.heap.size, 0, none⟩) s.size (bytesOf s) :=
  Kd.C_of_reads (enc := Value.int .u8) (d := (0 : Int)) (bytes_reads W 5 s hs)
/-- A conversion of a text to bytes. -/
theorem wpList_bytes {w : World} {ops : Array Oper} {rest : List Oper} {o : Oper} {a : Act} {Q : Exit → Act → World → Prop} (hgd : o.guard = none) (x : Operand)
    (ho : o.op = .convert 9 36 x) (s : ByteArray) (hx : a.eval x = .string s) (hs : s.size ≤ 9223372036854775807)
    (h : ∀ A c W1, s.size ≤ c → (Kd.int .u8).C W1 A s.size (bytesOf s) → Below w.heap.size w W1 → wpList Tryd.prog ops Q rest (a.put o.dst (.slice A s.size c)) W1) : wpList Tryd.prog ops Q (o :: rest) a w :=
  wpList_plain hgd fun _ hK => by
    have hr := print_bytes (P := Tryd.prog) 9 36 5 Tryd.underlying9 Tryd.underlying36 Tryd.underlying5 s w
    unfold Oper.wp execOp
    simp only [ho, hx, Sem.run_bind, Sem.run_pure, Result.andThen_ok, hr]
    exact hK _ _ (h _ _ _ (grownCap_ge w s.size 0 5) (conv_C w s hs) (bytes_below (Below.refl _ _) (Nat.le_refl _) 5 s))
end Go.Proofs.YtllgfccckcgekaaDoor
