/- What Same, Spoil, Intact and the rest of the package tail compute. Conditions: slices of at most 1000000 bytes. -/
import Derived.Test.YtllgfccckcgekaaDoorTail
import Derived.Deep.QuietTactic
import Derived.BigQuiet
namespace Go.Proofs.YtllgfccckcgekaaDoor
set_option maxRecDepth 100000
set_option maxHeartbeats 1000000
open Go.RowKit Go.Proofs.YtllgfccckcgekaaDoorW.PrintWords Go.Proofs.YtllgfccckcgekaaDoorW.PrintLast Go.Proofs.YtllgfccckcgekaaDoorW.PrintMore

theorem take_snoc {xs : List Int} {k : Nat} (h : k < xs.length) : xs.take (k + 1) = xs.take k ++ [rd xs k] := by
  rw [List.take_succ_eq_append_getElem h]
  simp [rd, List.getD_eq_getElem?_getD, h]

theorem Same_calls (A B : Option Addr) (n c m d : Nat) (xs ys : List Int) (w : World) (hx : (Kd.int .u8).C w A n xs) (hy : (Kd.int .u8).C w B m ys) :
    Calls Tryd.prog 27 #[.slice A n c, .slice B m d] w fun e w' => e = .returned (.bool (decide (xs = ys))) ∧ Below w.heap.size w w' := by
  have HX := Aside0.mk hx
  have HY := Aside0.mk hy
  have lx := hx.1
  have ly := hy.1
  have lm := hx.2.1
  clear hx hy
  by_cases hnm : n = m
  · subst hnm
    have LX := Aside0.mk lx
    have LY := Aside0.mk ly
    clear lx ly
    have t0 : ((n : Int) != (n : Int)) = false := by simp
    go_enter Tryd.func27, Tryd.ntmps27
    go_wp2
    go_loopw [5] (fun i wr => ∃ k : Nat, k ≤ n ∧ i = .int .i64 k ∧ Aside0 (xs.take k = ys.take k) ∧ Aside0 (Below w.heap.size w wr)) (fun i _ => n - (intOf i).toNat)
    case atStart => exact ⟨0, by omega, rfl, ⟨by simp⟩, ⟨Below.refl _ _⟩⟩
    case round =>
      obtain ⟨k, hk, rfl, hq, hb⟩ := hrel
      by_cases hlt : k < n
      · obtain ⟨ad, rfl, hcx⟩ := Kd.at_int HX.out k (by omega) (by omega)
        obtain ⟨bd, rfl, hcy⟩ := Kd.at_int HY.out k (by omega) (by omega)
        have hcx := pw_cell_below hb.out hcx
        have hcy := pw_cell_below hb.out hcy
        rw [Int.toNat_natCast] at hcx hcy
        by_cases heq : rd xs k = rd ys k
        · have t1 : (rd xs k != rd ys k) = false := by simp [heq]
          have HE := Aside0.mk heq
          clear heq
          go_wp2_with fail
          go_quiet (fail)
          go_wp2
          go_roundw
          case rel =>
            exact ⟨k + 1, by omega, by go_num, ⟨by rw [take_snoc (by rw [LX.out]; exact hlt), take_snoc (by rw [LY.out]; exact hlt), hq.out, HE.out]⟩, ⟨pw_below_drewN hb.out _⟩⟩
          case measure => simp [intOf]; omega
        · have t1 : (rd xs k != rd ys k) = true := by simp [heq]
          have HE := Aside0.mk heq
          clear heq
          go_wp2_with fail
          go_quiet (fail)
          go_wp2
          go_ret
          have : xs ≠ ys := fun e => HE.out (by rw [e])
          exact ⟨by simp [this], pw_below_drewN hb.out _⟩
      · obtain rfl : k = n := by omega
        go_wp2
        go_ret
        have h := hq.out
        rw [List.take_of_length_le (by rw [LX.out]; omega), List.take_of_length_le (by rw [LY.out]; omega)] at h
        exact ⟨by simp [h], hb.out⟩
  · have t0 : ((n : Int) != (m : Int)) = true := by simp; omega
    have hne : xs ≠ ys := fun e => hnm (by rw [← lx, ← ly, e])
    have HN := Aside0.mk hne
    clear hne lx ly hnm
    go_enter Tryd.func27, Tryd.ntmps27
    go_wp2
    go_ret
    exact ⟨by simp [HN.out], Below.refl _ _⟩

theorem Spoil_calls (base : Nat) (v : Value) (xs : List Int) (w : World) (hr : Row8 w base v xs) :
    Calls Tryd.prog 28 #[v] w fun e w' => (∃ u, e = .returned u) ∧ Below base w w' := by
  rcases hr with ⟨rfl, rfl⟩ | ⟨g, zs, rfl, hg, hm, hh⟩
  · go_enter Tryd.func28, Tryd.ntmps28
    go_wp2_with fail
    go_loop [10] (fun i => i = .int .i64 0) (fun _ => 0)
    case atStart => exact rfl
    case round =>
      obtain rfl := hrel
      go_wp2
      go_end0
      exact ⟨⟨_, rfl⟩, Below.refl _ _⟩
  · have HH := Aside0.mk hh
    generalize hc : xs.length + zs.length = c at *
    generalize hn : xs.length = n at *
    have hnc : n ≤ c := by omega
    have HL := Aside0.mk (show (xs ++ zs).length = c by simp; omega)
    clear hh hc hn
    unfold maxLen at hm
    go_enter Tryd.func28, Tryd.ntmps28
    go_wp2_with fail
    go_loopw [10, 3] (fun i _ wr => ∃ k : Nat, k ≤ c ∧ i = .int .i64 k ∧ Aside0 (∃ ys, ys.length = c ∧ wr.heap[g]? = some (.cells (nums .u8 ys).toArray 5 (0, 0))) ∧ Aside0 (Below base w wr)) (fun i _ _ => c - (intOf i).toNat)
    case atStart => exact ⟨0, by omega, rfl, ⟨_, HL.out, HH.out⟩, ⟨Below.refl _ _⟩⟩
    case round =>
      obtain ⟨k, hk, rfl, ⟨ys, hys, hcell⟩, hb⟩ := hrel
      have HY := Aside0.mk hys
      have HC := Aside0.mk hcell
      clear hys hcell
      by_cases hlt : k < c
      · have hc : wr.cell? ⟨g, k, none⟩ = some (.int .u8 (rd ys k)) := by
          rw [blk_cell HC.out]
          have : k < ys.length := by rw [HY.out]; exact hlt
          simp [nums, rd, List.getD_eq_getElem?_getD, this]
        have hf := blk_frozen HC.out k
        go_wp2
        go_roundw
        case rel =>
          refine ⟨k + 1, by omega, by go_num, ⟨ys.set k (Go.bits .xor .u8 (rd ys k) 119), by simp [HY.out], ?_⟩, ⟨hb.out.setCell hg _⟩⟩
          rw [blk_set HC.out]
          congr 2
          apply Array.ext'
          simp [nums]
        case measure => simp [intOf]; omega
      · obtain rfl : k = c := by omega
        go_wp2
        go_end0
        exact ⟨⟨_, rfl⟩, hb.out⟩

theorem lent_cell {w : World} {g : Nat} {xs : List Int} (h : w.heap[g]? = some (.cells (nums .u8 (xs ++ [85, 85, 85])).toArray 5 (0, 0))) (k : Nat) (hk : k < xs.length + 3) :
    w.cell? ⟨g, k, none⟩ = some (.int .u8 (rd (xs ++ [85, 85, 85]) k)) := by
  rw [blk_cell h]
  have : k < (xs ++ [85, 85, 85]).length := by simp; omega
  simp only [nums, List.getElem?_toArray, List.getElem?_map, rd, Int.toNat_natCast, List.getD_eq_getElem?_getD, List.getElem?_eq_getElem this, Option.map_some, Option.getD_some]

theorem Intact_calls (g : Nat) (B : Option Addr) (n c : Nat) (xs : List Int) (w : World) (hg : w.heap[g]? = some (.cells (nums .u8 (xs ++ [85, 85, 85])).toArray 5 (0, 0))) (hy : (Kd.int .u8).C w B n xs) (hn : n ≤ 1000000) :
    Calls Tryd.prog 29 #[.slice (some ⟨g, 0, none⟩) n (n + 3), .slice B n c] w fun e w' => e = .returned (.bool true) ∧ Below w.heap.size w w' := by
  have HY := Aside0.mk hy
  have HG := Aside0.mk hg
  have HL := Aside0.mk hy.1
  clear hy hg
  have t0 : ((n : Int) != (n : Int)) = false := by simp
  have t1 : ((n : Int) + 3 != (n : Int) + 3) = false := by simp
  go_enter Tryd.func29, Tryd.ntmps29
  go_wp2_with fail
  go_loopw [27, 6] (fun i _ wr => ∃ k : Nat, k ≤ n + 3 ∧ i = .int .i64 k ∧ Aside0 (Below w.heap.size w wr)) (fun i _ _ => n + 3 - (intOf i).toNat)
  case atStart => exact ⟨0, by omega, rfl, ⟨Below.refl _ _⟩⟩
  case round =>
    obtain ⟨k, hk, rfl, hb⟩ := hrel
    by_cases hlt : k < n + 3
    · have hc := pw_cell_below hb.out (lent_cell HG.out k (by rw [HL.out]; exact hlt))
      by_cases hlt2 : k < n
      · obtain ⟨bd, rfl, hcy⟩ := Kd.at_int HY.out k (by omega) (by omega)
        have hcy := pw_cell_below hb.out hcy
        rw [Int.toNat_natCast] at hcy
        have he : rd (xs ++ [85, 85, 85]) k = rd xs k := by
          have : k < xs.length := by rw [HL.out]; exact hlt2
          simp [rd, List.getD_eq_getElem?_getD, List.getElem?_append, this]
        rw [he] at hc
        have t2 : (rd xs k != rd xs k) = false := by simp
        have t3 : decide (n ≤ k) = false := by simp; omega
        have t4 : decide (k < n) = true := by simp; omega
        clear he
        go_wp2_with fail
        go_quiet (fail)
        go_wp2
        go_roundw
        case rel => exact ⟨k + 1, by omega, by go_num, ⟨pw_below_drewN hb.out _⟩⟩
        case measure => simp [intOf]; omega
      · have he : rd (xs ++ [85, 85, 85]) k = 85 := by
          have h1 : ¬ k < xs.length := by rw [HL.out]; exact hlt2
          have h2 : k - xs.length = 0 ∨ k - xs.length = 1 ∨ k - xs.length = 2 := by rw [HL.out]; omega
          simp only [rd, Int.toNat_natCast, List.getD_eq_getElem?_getD, List.getElem?_append, h1, if_false]
          rcases h2 with h2 | h2 | h2 <;> rw [h2] <;> rfl
        rw [he] at hc
        have t3 : decide (n ≤ k) = true := by simp; omega
        have t4 : decide (k < n) = false := by simp; omega
        clear he
        go_wp2_with fail
        go_quiet (fail)
        go_wp2
        go_roundw
        case rel => exact ⟨k + 1, by omega, by go_num, ⟨pw_below_drewN hb.out _⟩⟩
        case measure => simp [intOf]; omega
    · obtain rfl : k = n + 3 := by omega
      go_wp2
      go_ret
      exact ⟨rfl, hb.out⟩

end Go.Proofs.YtllgfccckcgekaaDoor
