/- The walk of TailTells: it answers true. No condition. -/
import Derived.Test.YtllgfccckcgekaaDoorTail5
import Derived.Test.YtllgfccckcgekaaDoorTailRef
namespace Go.Proofs.YtllgfccckcgekaaDoor
set_option maxRecDepth 100000
set_option maxHeartbeats 4000000
open Go.RowKit Go.Proofs.YtllgfccckcgekaaDoorW.PrintWords Go.Proofs.YtllgfccckcgekaaDoorW.PrintLast Go.Proofs.YtllgfccckcgekaaDoorW.PrintMore

theorem cutk {w : World} {A : Option Addr} {n c : Nat} {xs : List Int} (k : Nat) (h : (Kd.int .u8).C w A n xs) (hm : k ≤ n) (hc : n ≤ c) :
    ∃ A', (∀ W : World, (Instr.slice 36 (.slice A n c) (some (.int .i64 (k : Int))) none none).run Tryd.prog W = .ok (.slice A' (n - k) (c - k)) W) ∧ (Kd.int .u8).C w A' (n - k) (xs.drop k) := by
  have h1 := cut5_from A n c k (by omega) (by omega)
  refine ⟨_, fun W => (h1 W).trans ?_, C_cut h hm hc⟩
  simp
def tellPres : List ByteArray := [⟨#[]⟩, ⟨#[45, 45, 45]⟩, ⟨#[46, 46, 46]⟩, ⟨#[32]⟩, ⟨#[32, 32, 35]⟩, ⟨#[45, 45, 45, 32]⟩, ⟨#[35]⟩, ⟨#[46, 46, 46, 32, 35]⟩, ⟨#[45, 45]⟩, ⟨#[45, 45, 45, 9]⟩]
theorem tellPres_at (k : Nat) (h : k < 10) : ∃ p, tellPres[k]? = some p ∧ p.size ≤ 5 := by
  have hall : ∀ p ∈ tellPres, p.size ≤ 5 := by
    intro p hp
    simp only [tellPres, List.mem_cons, List.not_mem_nil, or_false] at hp
    rcases hp with rfl | rfl | rfl | rfl | rfl | rfl | rfl | rfl | rfl | rfl <;> decide
  have hl : k < tellPres.length := h
  exact ⟨tellPres[k], List.getElem?_eq_getElem hl, hall _ (List.getElem_mem hl)⟩

theorem cell_lit (w : World) (k : Nat) (p : ByteArray) (h : tellPres[k]? = some p) : (w.alloc (.cells #[.string ⟨#[]⟩, .string ⟨#[45, 45, 45]⟩, .string ⟨#[46, 46, 46]⟩, .string ⟨#[32]⟩, .string ⟨#[32, 32, 35]⟩, .string ⟨#[45, 45, 45, 32]⟩, .string ⟨#[35]⟩, .string ⟨#[46, 46, 46, 32, 35]⟩, .string ⟨#[45, 45]⟩, .string ⟨#[45, 45, 45, 9]⟩] 9)).cell? ⟨w.heap.size, k, none⟩ = some (.string p) := by
  rw [blk_cell (blk_new w _)]
  have : (tellPres.map Value.string)[k]? = some (.string p) := by rw [List.getElem?_map, h]; rfl
  rw [← Array.getElem?_toList]
  exact this
theorem walk_tells (a0 : ByteArray) (a1 : Int) (w0 : a0.size ≤ 9223372036854775807) (hv : -9223372036854775808 ≤ a1 ∧ a1 ≤ 9223372036854775807) (w : World) :
    Calls Tryd.prog 5 #[.string a0, .int .i64 a1] w fun e w' => e = .returned (.bool true) ∧ Below w.heap.size w w' := by
  have HV := Aside0.mk hv
  clear hv
  obtain ⟨k, hk⟩ := Int.eq_ofNat_of_zero_le (Int.emod_nonneg a1 (show (10 : Int) ≠ 0 by omega))
  have hk10 : k < 10 := by have := Int.emod_lt_of_pos a1 (show (0 : Int) < 10 by omega); omega
  obtain ⟨p, hp, hpl⟩ := tellPres_at k hk10
  have HK := Aside0.mk hk
  have HP := Aside0.mk hp
  clear hk hp
  have ht : (textF a0 40).size ≤ 40 := by
    have := bytesOf_textF a0 40
    have := congrArg List.length this
    rw [bytesOf_length, List.length_take] at this
    omega
  obtain ⟨X, hXX⟩ : ∃ X, X = p ++ textF a0 40 := ⟨_, rfl⟩
  have hXl : X.size ≤ 45 := by rw [hXX, ByteArray.size_append]; omega
  have HXX := Aside0.mk hXX
  have LX := Aside0.mk (bytesOf_length X)
  have LL := Aside0.mk (lead_le (bytesOf X))
  have LN := Aside0.mk (lead_nb (bytesOf X))
  have LA := Aside0.mk (lead_at (bytesOf X))
  clear hXX
  go_enter Tryd.func5, Tryd.ntmps5
  go_wp2_with (first | (go_at_call 24; refine (Text_calls a0 40 _ (by omega) w0).mono ?_; rintro e w1 ⟨rfl, hb1⟩) | (go_at_call 23; refine (Within_calls a1 10 _ (by omega) (by omega) HV.out).mono ?_; rw [HK.out]; rintro e w' ⟨rfl, rfl⟩; have hcell := cell_lit w1 k p HP.out) | (with_reducible refine wpList_bytes (o := ⟨some 24, _, _, _, _, _⟩) rfl (.tmp 23) rfl _ rfl (by rw [← HXX.out]; omega) ?_; rw [← HXX.out]; intro B d W1 hd hC hb))
  have hbb : Below w.heap.size w W1 := below_step hb1 (below_step (below_alloc (Below.refl _ _) _) hb)
  clear hcell hb hb1 ht
  refine (Lend_calls B X.size d (bytesOf X) W1 hC (by omega)).mono ?_
  rintro e W2 ⟨rfl, hg, hb2⟩
  have HG := Aside0.mk hg
  clear hg
  have hCx : (Kd.int .u8).C W2 (some ⟨W1.heap.size, 0, none⟩) X.size (bytesOf X) := by
    have := C_blk HG.out (by rw [bytesOf_length]; omega)
    rwa [bytesOf_length] at this
  go_wp2_with fail
  refine (Comment_calls _ X.size (X.size + 3) (bytesOf X) W2 hCx (by omega) (by omega)).mono ?_
  rintro e W3 ⟨rfl, hb3⟩
  go_wp2_with fail
  refine (RefComment_calls B X.size d (bytesOf X) W3 (Kd.C_below hC (below_step hb2 hb3))).mono ?_
  rintro e W3' ⟨rfl, rfl⟩
  go_wp2_with fail
  refine (Rest_calls _ X.size (X.size + 3) (bytesOf X) W3 (Kd.C_below hCx hb3) (by omega) (by omega)).mono ?_
  rintro e W4 ⟨A', c', rfl, hr4, hb4⟩
  have hCb := Kd.C_below hC (below_step (below_step hb2 hb3) hb4)
  have HCB := Aside0.mk hCb
  clear hCb
  have hll : lead (bytesOf X) ≤ X.size := by have := LL.out; rwa [LX.out] at this
  obtain ⟨m, hm⟩ : ∃ m, X.size - lead (bytesOf X) = m := ⟨_, rfl⟩
  obtain ⟨Ac, hcut, hCc⟩ := cutk (lead (bytesOf X)) HCB.out hll hd
  rw [hm] at hcut hCc
  clear hm
  have HCC := Aside0.mk hCc
  clear hCc
  go_wp2_with fail
  go_loop [12] (fun i => ∃ k : Nat, k ≤ lead (bytesOf X) ∧ i = .int .i64 k) (fun i => X.size - (intOf i).toNat)
  case atStart => exact ⟨0, by omega, rfl⟩
  case round =>
    obtain ⟨k, hk, rfl⟩ := hrel
    by_cases hl : k < lead (bytesOf X)
    · obtain ⟨ad, rfl, hc⟩ := Kd.at_int HCB.out k (by omega) (by omega)
      rw [Int.toNat_natCast, lead_rd hl] at hc
      go_wp2
      refine ⟨⟨k + 1, by omega, by go_num⟩, by simp [intOf]; omega⟩
    · obtain rfl : k = lead (bytesOf X) := by omega
      obtain ⟨A5, c5, he4, hc4, hC4⟩ := hr4.form
      obtain ⟨rfl, -, rfl⟩ := Value.slice.inj he4
      clear he4
      have hsame := Same_calls A' Ac _ c' _ (d - lead (bytesOf X)) (nb (bytesOf X)) (List.drop (lead (bytesOf X)) (bytesOf X)) W4 hC4 HCC.out
      rw [LA.out, decide_eq_true rfl] at hsame
      have HS := Aside0.mk hsame
      clear hsame
      have hcases : X.size ≤ lead (bytesOf X) ∨ ∃ ad, B = some ad ∧ lead (bytesOf X) < X.size ∧ w0 = w0 ∧ ∃ y : Int, W4.cell? (ad.add (lead (bytesOf X))) = some (.int .u8 y) ∧ (y == 32) = false := by
        by_cases hlt : lead (bytesOf X) < X.size
        · obtain ⟨ad, hB, hc⟩ := Kd.at_int HCB.out (lead (bytesOf X)) (by omega) (by omega)
          rw [Int.toNat_natCast] at hc
          exact .inr ⟨ad, hB, hlt, rfl, _, hc, by simpa using (lead_stop (xs := bytesOf X) (by rw [LX.out]; exact hlt)).1⟩
        · exact .inl (by omega)
      have hb03 : Below w.heap.size w W3 := below_step (below_step hbb hb2) hb3
      clear hbb hk hl
      rcases hcases with hge | ⟨ad, rfl, hlt, -, y, hcy, hy⟩
      all_goals
        go_wp2_with fail
        refine HS.out.mono ?_
        rintro e W5 ⟨rfl, hb5⟩
        go_wp2_with fail
        refine (Spoil_calls W3.heap.size _ (nb (bytesOf X)) W5 (hr4.below hb5)).mono ?_
        rintro e W6 ⟨⟨uu, rfl⟩, hb6⟩
        have hb36 : Below W3.heap.size W3 W6 := (below_step hb4 hb5).trans hb6
        have hb26 := below_step hb3 hb36
        have HG6 := Aside0.mk ((hb26.block W1.heap.size (blk_lt HG.out)).trans HG.out)
        have hCx6 := Kd.C_below hCx hb26
        have hC6 := Kd.C_below hC (below_step hb2 hb26)
        go_wp2_with fail
        refine (Clear_calls _ X.size (X.size + 3) (bytesOf X) W6 hCx6 (by omega) (by omega)).mono ?_
        rintro e W7 ⟨rfl, hb7⟩
        go_wp2_with fail
        refine (RefClear_calls _ X.size d (bytesOf X) W7 (Kd.C_below hC6 hb7)).mono ?_
        rintro e W7' ⟨rfl, rfl⟩
        go_wp2_with fail
        refine (Marker_calls _ X.size (X.size + 3) (bytesOf X) W7 (Kd.C_below hCx6 hb7) (bytesOf_byt X) (by omega) (by omega)).mono ?_
        rintro e W8 ⟨rfl, hb8⟩
        go_wp2_with fail
        have hb68 := below_step hb7 hb8
        refine (RefMarker_calls _ X.size d (bytesOf X) W8 (Kd.C_below hC6 hb68) (bytesOf_byt X) hd).mono ?_
        rintro e W8' ⟨rfl, rfl⟩
        go_wp2_with fail
        refine (Intact_calls W1.heap.size _ X.size d (bytesOf X) W8 ((hb68.block W1.heap.size (blk_lt HG6.out)).trans HG6.out) (Kd.C_below hC6 hb68) (by omega)).mono ?_
        rintro e W9 ⟨rfl, hb9⟩
        go_wp2_with fail
        refine (wakes11_calls W9).mono ?_
        rintro e W10 ⟨rfl, hb10⟩
        go_wp2
        go_ret
        exact ⟨rfl, below_step (below_step (below_step (below_step hb03 hb36) hb68) hb9) hb10⟩
end Go.Proofs.YtllgfccckcgekaaDoor
