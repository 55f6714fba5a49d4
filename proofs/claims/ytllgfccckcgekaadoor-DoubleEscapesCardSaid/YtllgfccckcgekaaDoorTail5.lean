/- The walk of TailRests: it answers true. No condition. -/
import Derived.Test.YtllgfccckcgekaaDoorTail4
import Derived.Test.YtllgfccckcgekaaDoorKeep
import Derived.Lib.SlBytesConst
namespace Go.Proofs.YtllgfccckcgekaaDoor
set_option maxRecDepth 100000
set_option maxHeartbeats 1000000
open Go.RowKit Go.Proofs.YtllgfccckcgekaaDoorW.PrintWords Go.Proofs.YtllgfccckcgekaaDoorW.PrintLast Go.Proofs.YtllgfccckcgekaaDoorW.PrintMore

/-- A row of bytes that lies in a block whole is read. -/
theorem C_blk {w : World} {g : Nat} {xs zs : List Int} (h : w.heap[g]? = some (.cells (nums .u8 (xs ++ zs)).toArray 5 (0, 0))) (hl : xs.length ≤ 9223372036854775807) : (Kd.int .u8).C w (some ⟨g, 0, none⟩) xs.length xs := by
  refine Kd.C_of_reads (enc := Value.int .u8) (d := (0 : Int)) ⟨rfl, hl, fun _ => ⟨_, rfl, fun j hj => ?_⟩⟩
  rw [add_plain, blk_cell h]
  simp [nums, List.getElem?_append, hj, List.getD_eq_getElem?_getD]

/-- Bytes of a constant text: the block bears a mark behind its last cell. -/
theorem C_const (w : World) (xs : List Int) (m : Nat × Nat) (hl : xs.length ≤ 9223372036854775807) : (Kd.int .u8).C (w.alloc (.cells (nums .u8 xs).toArray 5 m)) (some ⟨w.heap.size, 0, none⟩) xs.length xs := by
  refine Kd.C_of_reads (enc := Value.int .u8) (d := (0 : Int)) ⟨rfl, hl, fun _ => ⟨_, rfl, fun j hj => ?_⟩⟩
  rw [add_plain]
  have h := heap_alloc_new w (.cells (nums .u8 xs).toArray 5 m)
  simp only [World.cell?, h]
  simp [nums, hj, List.getD_eq_getElem?_getD]

theorem wakes11_calls (w : World) : Calls Tryd.prog 30 #[] w fun e w' => e = .returned (.bool true) ∧ Below w.heap.size w w' := by
  have hm : markF [45, 45, 45, 32, 35, 32, 120] = 1 := by decide
  have hk := Marker_calls (some ⟨w.heap.size, 0, none⟩) 7 7 [45, 45, 45, 32, 35, 32, 120] _ (C_const w [45, 45, 45, 32, 35, 32, 120] (7, 8) (by decide)) (by intro x hx; simp at hx; omega) (Nat.le_refl _) (by decide)
  rw [hm] at hk
  have HK := Aside0.mk hk
  clear hm hk
  have kc := fun (w : World) (C : Array Value) (n c : Nat) => Lib.run_convert_bytes_const (P := Tryd.prog) w 36 5 C n c Tryd.underlying36 Tryd.underlying5
  go_enter Tryd.func30, Tryd.ntmps30
  go_wp2_with (go_at_call 35; refine HK.out.mono ?_; rintro e w2 ⟨rfl, h3⟩)
  go_ret
  exact ⟨rfl, (below_alloc (Below.refl _ _) _).trans (h3.mono (by simp))⟩

def blanks8 : ByteArray := ⟨#[32, 32, 32, 32, 32, 32, 32, 32]⟩
theorem nb_blanks (n : Nat) (xs : List Int) (h : xs.head? ≠ some 32) : nb (List.replicate n 32 ++ xs) = xs := by
  unfold nb
  induction n with
  | zero =>
    cases xs with
    | nil => rfl
    | cons x t =>
      simp only [List.head?_cons, ne_eq, Option.some.injEq] at h
      simp [h]
  | succ n ih => simp [List.replicate_succ, ih]

theorem bytesOf_append (s t : ByteArray) : bytesOf (s ++ t) = bytesOf s ++ bytesOf t := by
  unfold bytesOf
  simp
theorem blanks_eq (k : Nat) (hk : k ≤ 8) (u : ByteArray) : bytesOf ((⟨#[32, 32, 32, 32, 32, 32, 32, 32]⟩ : ByteArray).extract 0 k ++ u) = List.replicate k 32 ++ bytesOf u := by
  rw [bytesOf_append, bytesOf_extract, List.drop_zero]
  congr 1
  have : bytesOf (⟨#[32, 32, 32, 32, 32, 32, 32, 32]⟩ : ByteArray) = List.replicate 8 32 := rfl
  rw [this, List.take_replicate, Nat.min_eq_left hk]
theorem strOfNums_bytesOf (u : ByteArray) : strOfNums (bytesOf u) = u := by
  apply ByteArray.ext
  apply Array.ext'
  rw [strOfNums_data]
  unfold bytesOf
  rw [List.map_map]
  conv => rhs; rw [← List.map_id u.data.toList]
  apply List.map_congr_left
  intro b _
  simp
theorem head_bytesOf {u : ByteArray} (h : (bytesOf u).head? = some 32) : ∃ hz : 0 < u.size, (((u[0]'hz).toNat : Int) == 32) = true := by
  have hl : 0 < u.size := by
    rw [← bytesOf_length]
    cases hb : bytesOf u with
    | nil => rw [hb] at h; cases h
    | cons x t => simp
  refine ⟨hl, ?_⟩
  rw [head_rd (by rw [bytesOf_length]; exact hl), rd_bytesOf] at h
  have := bt_at u 0 hl
  simp only [Int.toNat_zero] at this
  rw [this]
  simpa using h

set_option maxHeartbeats 4000000 in
theorem walk_rests (a0 : Int) (a1 : ByteArray) (hv : -9223372036854775808 ≤ a0 ∧ a0 ≤ 9223372036854775807) (w1 : a1.size ≤ 9223372036854775807) (w : World) :
    Calls Tryd.prog 4 #[.int .i64 a0, .string a1] w fun e w' => e = .returned (.bool true) ∧ Below w.heap.size w w' := by
  have HV := Aside0.mk hv
  have hm0 : 0 ≤ a0 % 8 := Int.emod_nonneg _ (by omega)
  have hm1 : a0 % 8 < 8 := Int.emod_lt_of_pos _ (by omega)
  have HT := Aside0.mk (show (textF a1 30).size ≤ 30 by
    have := bytesOf_textF a1 30
    have := congrArg List.length this
    rw [bytesOf_length, List.length_take] at this
    omega)
  clear hv
  go_enter Tryd.func4, Tryd.ntmps4
  go_wp2_with (first | (go_at_call 23; refine (Within_calls a0 8 _ (by omega) (by omega) HV.out).mono ?_; rintro e w' ⟨rfl, rfl⟩) | (go_at_call 24; refine (Text_calls a1 30 _ (by omega) w1).mono ?_; rintro e w1 ⟨rfl, hb1⟩))
  go_loop [1] (fun s => ∃ u : ByteArray, s = .string u ∧ u.size ≤ 30) (fun s => match s with | .string u => u.size | _ => 0)
  case atStart => exact ⟨_, rfl, HT.out⟩
  case round =>
    obtain ⟨u, rfl, hu⟩ := hrel
    by_cases hgo : ∃ hz : 0 < u.size, (((u[0]'hz).toNat : Int) == 32) = true
    · obtain ⟨hz, h32⟩ := hgo
      go_wp2
      refine ⟨⟨_, rfl, ?_⟩, ?_⟩
      · simp only [ByteArray.size_extract]; omega
      · simp only [ByteArray.size_extract]; omega
    · have hd : (bytesOf u).head? ≠ some 32 := fun h => hgo (head_bytesOf h)
      have hcases : u.size = 0 ∨ ∃ hz : 0 < u.size, (((u[0]'hz).toNat : Int) == 32) = false := by
        by_cases hz : 0 < u.size
        · exact .inr ⟨hz, Bool.eq_false_iff.2 fun h => hgo ⟨hz, h⟩⟩
        · exact .inl (by omega)
      have hk8 : (a0 % 8).toNat ≤ 8 := by omega
      have hX := blanks_eq (a0 % 8).toNat hk8 u
      obtain ⟨X, hXX⟩ : ∃ X, X = (⟨#[32, 32, 32, 32, 32, 32, 32, 32]⟩ : ByteArray).extract 0 (a0 % 8).toNat ++ u := ⟨_, rfl⟩
      rw [← hXX] at hX
      have hnb : nb (bytesOf X) = bytesOf u := by rw [hX, nb_blanks _ _ hd]
      have hnb2 : nb (bytesOf u) = bytesOf u := nb_blanks 0 _ hd
      have hXl : X.size ≤ 38 := by
        have := congrArg List.length hX
        rw [bytesOf_length, List.length_append, List.length_replicate, bytesOf_length] at this
        omega
      have HNB := Aside0.mk hnb
      have HNB2 := Aside0.mk hnb2
      have HXX := Aside0.mk hXX
      have HUL := Aside0.mk (bytesOf_length u)
      clear hnb hnb2 hX hXX hgo hd
      rcases hcases with hz | ⟨hz, h32⟩
      all_goals
        go_wp2_with (with_reducible refine wpList_bytes (o := ⟨some 27, _, _, _, _, _⟩) rfl (.tmp 26) rfl _ rfl (by rw [← HXX.out]; omega) ?_; rw [← HXX.out]; intro B d W1 hd hC hb)
        first | clear hz | clear h32
        refine (Lend_calls B X.size d (bytesOf X) W1 hC (by omega)).mono ?_
        rintro e W2 ⟨rfl, hg, hb2⟩
        have HG := Aside0.mk hg
        clear hg
        go_wp2_with fail
        have hCx : (Kd.int .u8).C W2 (some ⟨W1.heap.size, 0, none⟩) X.size (bytesOf X) := by
          have := C_blk HG.out (by rw [bytesOf_length]; omega)
          rwa [bytesOf_length] at this
        have hk := Rest_calls (some ⟨W1.heap.size, 0, none⟩) X.size (X.size + 3) (bytesOf X) W2 hCx (by omega) (by omega)
        rw [HNB.out] at hk
        refine hk.mono ?_
        clear hk
        rintro e W3 ⟨A', c', rfl, hr3, hb3⟩
        obtain ⟨A3, c3, he3, hc3, hC3⟩ := hr3.form
        obtain ⟨rfl, -, rfl⟩ := Value.slice.inj he3
        clear he3
        have hs := Kd.C_string (src := 36) (dst := 9) (c := c') Tryd.underlying36 Tryd.underlying5 Tryd.underlying9 hC3
        rw [strOfNums_bytesOf] at hs
        go_wp2_with fail
        have hk := Rest_calls A' (bytesOf u).length c' (bytesOf u) W3 hC3 hc3 (by rw [HUL.out]; omega)
        rw [HNB2.out] at hk
        refine hk.mono ?_
        clear hk
        rintro e W4 ⟨A4, c4, rfl, hr4, hb4⟩
        obtain ⟨A5, c5, he4, hc4, hC4⟩ := hr4.form
        obtain ⟨rfl, -, rfl⟩ := Value.slice.inj he4
        clear he4
        go_wp2_with fail
        refine (Same_calls A4 A' _ c4 _ c' (bytesOf u) (bytesOf u) W4 hC4 (Kd.C_below hC3 hb4)).mono ?_
        rintro e W5 ⟨rfl, hb5⟩
        have hb25 : Below W2.heap.size W2 W5 := below_step (below_step hb3 hb4) hb5
        go_wp2_with fail
        refine (Spoil_calls W2.heap.size _ (bytesOf u) W5 ((hr3.below hb4).below hb5)).mono ?_
        rintro e W6 ⟨⟨uu, rfl⟩, hb6⟩
        have hb26 : Below W2.heap.size W2 W6 := hb25.trans hb6
        have hg6 := (hb26.block W1.heap.size (blk_lt HG.out)).trans HG.out
        have HG6 := Aside0.mk hg6
        clear hg6
        go_wp2_with fail
        refine (Intact_calls W1.heap.size B X.size d (bytesOf X) W6 HG6.out (Kd.C_below hC (below_step hb2 hb26)) (by omega)).mono ?_
        rintro e W7 ⟨rfl, hb7⟩
        have h0 : (nb ([] : List Int)).length = 0 := rfl
        go_wp2_with fail
        refine (Rest_calls none 0 0 [] W7 (Kd.C_nil _ _) (Nat.le_refl _) (by omega)).mono ?_
        rintro e W8 ⟨A8, c8, rfl, hr8, hb8⟩
        go_wp2_with fail
        refine (wakes11_calls W8).mono ?_
        rintro e W9 ⟨rfl, hb9⟩
        go_wp2
        go_ret
        exact ⟨rfl, below_step (below_step (below_step (below_step (below_step (below_step hb1 hb) hb2) hb26) hb7) hb8) hb9⟩
end Go.Proofs.YtllgfccckcgekaaDoor
