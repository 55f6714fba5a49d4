/- What Equal, HasPrefix, CutPrefix and Marker compute. Conditions: slices of at most 1000000 bytes. -/
import Derived.Test.YtllgfccckcgekaaDoorTail2
import Derived.Lib.Bytes
import Derived.Deep.QuietTactic
import Derived.BigQuiet
namespace Go.Proofs.YtllgfccckcgekaaDoor
set_option maxRecDepth 100000
set_option maxHeartbeats 1000000
open Go.RowKit Go.Proofs.YtllgfccckcgekaaDoorW.PrintWords Go.Proofs.YtllgfccckcgekaaDoorW.PrintLast Go.Proofs.YtllgfccckcgekaaDoorW.PrintMore

/-- Numbers that are bytes. -/
def Byt (xs : List Int) : Prop := ∀ x ∈ xs, 0 ≤ x ∧ x ≤ 255
theorem strOfNums_inj {xs ys : List Int} (hx : Byt xs) (hy : Byt ys) (h : strOfNums xs = strOfNums ys) : xs = ys := by
  have h1 : xs.map (fun n => UInt8.ofNat n.toNat) = ys.map (fun n => UInt8.ofNat n.toNat) := by
    rw [← strOfNums_data, ← strOfNums_data, h]
  clear h
  induction xs generalizing ys with
  | nil => cases ys <;> simp_all
  | cons x t ih =>
    cases ys with
    | nil => simp at h1
    | cons y s =>
      simp only [List.map_cons, List.cons.injEq] at h1
      have hx0 := hx x (by simp)
      have hy0 := hy y (by simp)
      have h2 := congrArg UInt8.toNat h1.1
      simp only [UInt8.toNat_ofNat'] at h2
      have : x = y := by omega
      rw [this, ih (fun z hz => hx z (by simp [hz])) (fun z hz => hy z (by simp [hz])) h1.2]

theorem strOfNums_beq {xs ys : List Int} (hx : Byt xs) (hy : Byt ys) : ((strOfNums xs).toList == (strOfNums ys).toList) = decide (xs = ys) := by
  rw [Bool.eq_iff_iff]
  simp only [beq_iff_eq, decide_eq_true_eq]
  constructor
  · intro h
    rw [Lib.strOfNums_toList, Lib.strOfNums_toList] at h
    apply strOfNums_inj hx hy
    unfold strOfNums
    unfold Lib.bytesOf at h
    rw [h]
  · intro h
    rw [h]

theorem Equal_calls (A B : Option Addr) (n c m d : Nat) (xs ys : List Int) (w : World) (hx : (Kd.int .u8).C w A n xs) (hy : (Kd.int .u8).C w B m ys) (bx : Byt xs) (by_ : Byt ys) :
    Calls Tryd.prog 136 #[.slice A n c, .slice B m d] w fun e w' => e = .returned (.bool (decide (xs = ys))) ∧ Below w.heap.size w w' := by
  have k1 : ∀ W, Below w.heap.size w W → (convert 36 9 (.slice A n c)).run Tryd.prog W = .ok (.string (strOfNums xs)) W := fun W hb => Kd.C_string Tryd.underlying36 Tryd.underlying5 Tryd.underlying9 (Kd.C_below hx hb)
  have k2 : ∀ W, Below w.heap.size w W → (convert 36 9 (.slice B m d)).run Tryd.prog W = .ok (.string (strOfNums ys)) W := fun W hb => Kd.C_string Tryd.underlying36 Tryd.underlying5 Tryd.underlying9 (Kd.C_below hy hb)
  have e1 := k1 w (Below.refl _ _)
  have e2 := k2 w (Below.refl _ _)
  clear k1 k2
  go_enter Tryd.func136, Tryd.ntmps136
  go_wp2
  rw [strOfNums_beq bx by_]
  go_ret
  exact ⟨rfl, Below.refl _ _⟩

theorem Byt.take {xs : List Int} (h : Byt xs) (k : Nat) : Byt (xs.take k) := fun x hx => h x (List.mem_of_mem_take hx)
theorem Byt.drop {xs : List Int} (h : Byt xs) (k : Nat) : Byt (xs.drop k) := fun x hx => h x (List.mem_of_mem_drop hx)
def hasPre (xs ys : List Int) : Bool := ys.isPrefixOf xs
theorem hasPre_take (xs ys : List Int) : hasPre xs ys = decide (xs.take ys.length = ys) := by
  unfold hasPre
  rw [Bool.eq_iff_iff, List.isPrefixOf_iff_prefix, decide_eq_true_eq, List.prefix_iff_eq_take]
  exact eq_comm
theorem HasPrefix_calls (A B : Option Addr) (n c m d : Nat) (xs ys : List Int) (w : World) (hx : (Kd.int .u8).C w A n xs) (hy : (Kd.int .u8).C w B m ys) (bx : Byt xs) (by_ : Byt ys) (hc : n ≤ c) :
    Calls Tryd.prog 108 #[.slice A n c, .slice B m d] w fun e w' => e = .returned (.bool (hasPre xs ys)) ∧ Below w.heap.size w w' := by
  have HX := Aside0.mk hx
  have HY := Aside0.mk hy
  have LX := Aside0.mk hx.1
  have LY := Aside0.mk hy.1
  clear hx hy
  by_cases hlt : m ≤ n
  · have ht : (Kd.int .u8).C w A m (xs.take m) := by
      have h := Kd.C_take (m := m) (LX.out ▸ HX.out) (by rw [LX.out]; exact hlt)
      have e : (xs.take m).length = m := by rw [List.length_take, LX.out]; omega
      rw [e] at h
      exact h
    have HT := Aside0.mk ht
    have HP := Aside0.mk (hasPre_take xs ys)
    clear ht
    go_enter Tryd.func108, Tryd.ntmps108
    go_wp2_with (go_at_call 136; refine (Equal_calls A B m c m d (xs.take m) ys _ HT.out HY.out (bx.take _) by_).mono ?_; rintro e w' ⟨rfl, h5⟩)
    go_ret
    exact ⟨by rw [HP.out, LY.out]; rfl, h5⟩
  · have hp : hasPre xs ys = false := by
      rw [hasPre_take]
      simp only [decide_eq_false_iff_not]
      intro h
      have := congrArg List.length h
      rw [List.length_take, LX.out, LY.out] at this
      omega
    have HP := Aside0.mk hp
    clear hp
    go_enter Tryd.func108, Tryd.ntmps108
    go_wp2
    go_ret
    exact ⟨by rw [HP.out]; rfl, Below.refl _ _⟩

theorem C_cut {k : IntKind} {w : World} {A : Option Addr} {n c m : Nat} {xs : List Int} (h : (Kd.int k).C w A n xs) (hm : m ≤ n) (hc : n ≤ c) : (Kd.int k).C w (if c = m then A else A.map (·.add m)) (n - m) (xs.drop m) := by
  obtain rfl : xs.length = n := h.1
  have := Kd.C_drop (m := m) h hm hc
  rw [List.length_drop] at this
  simpa [Kd.int, Kd.scalar] using this
def cutPre (xs ys : List Int) : List Int := if hasPre xs ys then xs.drop ys.length else xs
theorem CutPrefix_calls (A B : Option Addr) (n c m d : Nat) (xs ys : List Int) (w : World) (hx : (Kd.int .u8).C w A n xs) (hy : (Kd.int .u8).C w B m ys) (bx : Byt xs) (by_ : Byt ys) (hc : n ≤ c) :
    Calls Tryd.prog 70 #[.slice A n c, .slice B m d] w fun e w' => ∃ A' c', e = .returned (.tuple #[.slice A' (cutPre xs ys).length c', .bool (hasPre xs ys)]) ∧ (cutPre xs ys).length ≤ c' ∧ (Kd.int .u8).C w' A' (cutPre xs ys).length (cutPre xs ys) ∧ Below w.heap.size w w' := by
  have HX := Aside0.mk hx
  have HY := Aside0.mk hy
  have LX := Aside0.mk hx.1
  have LY := Aside0.mk hy.1
  clear hx hy
  cases hp : hasPre xs ys with
  | false =>
    have e : cutPre xs ys = xs := by simp [cutPre, hp]
    have E := Aside0.mk e
    clear e
    go_enter Tryd.func70, Tryd.ntmps70
    go_wp2_with (go_at_call 108; refine (HasPrefix_calls A B n c m d xs ys _ HX.out HY.out bx by_ hc).mono ?_; rintro e w' ⟨rfl, h5⟩)
    go_ret2
    exact ⟨A, c, by rw [E.out, LX.out]; rfl, by rw [E.out, LX.out]; exact hc, by rw [E.out, LX.out]; exact Kd.C_below HX.out h5, h5⟩
  | true =>
    have hle : m ≤ n := by
      have := hasPre_take xs ys
      rw [hp] at this
      have h2 := congrArg List.length (of_decide_eq_true this.symm)
      rw [List.length_take, LX.out, LY.out] at h2
      omega
    have e : cutPre xs ys = xs.drop m := by simp [cutPre, hp, LY.out]
    have E := Aside0.mk e
    clear e
    go_enter Tryd.func70, Tryd.ntmps70
    go_wp2_with (go_at_call 108; refine (HasPrefix_calls A B n c m d xs ys _ HX.out HY.out bx by_ hc).mono ?_; rintro e w' ⟨rfl, h5⟩)
    all_goals have hcut := C_cut (Kd.C_below HX.out h5) hle hc
    all_goals have hl : (cutPre xs ys).length = n - m := by rw [E.out, List.length_drop, LX.out]
    · have hcm : c = m := by assumption
      rw [if_pos hcm] at hcut
      go_ret2
      exact ⟨_, 0, by rw [hl]; rfl, by rw [hl]; omega, by rw [hl, E.out]; exact hcut, h5⟩
    · have hcm : ¬ c = m := by assumption
      rw [if_neg hcm] at hcut
      go_ret2
      exact ⟨_, c - m, by rw [hl]; rfl, by rw [hl]; omega, by rw [hl, E.out]; exact hcut, h5⟩
end Go.Proofs.YtllgfccckcgekaaDoor
