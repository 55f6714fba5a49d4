/- The walk of PathJoins: it answers true. Conditions: the arguments are read; their numbers are ints. -/
import Derived.Test.YtllgfccckcgekaaDoorWakes20
import Derived.Test.YtllgfccckcgekaaDoorSameS
import Derived.Test.YtllgfccckcgekaaDoorText20
namespace Go.Proofs.YtllgfccckcgekaaDoor
set_option maxRecDepth 100000
set_option maxHeartbeats 8000000
open Go.RowKit Go.Proofs.YtllgfccckcgekaaDoorW.PrintWords Go.Proofs.YtllgfccckcgekaaDoorW.PrintLast Go.Proofs.YtllgfccckcgekaaDoorW.PrintMore

theorem parseF_len (xs : List Int) (h : (parseF xs).2 = 0) : (parseF xs).1.length ≤ 32 := by
  rw [parseF_total] at h ⊢
  cases ht : totalF xs with
  | none => rw [ht] at h; simp at h
  | some l =>
    rw [ht] at h
    simp only at h ⊢
    split at h
    · simp at h
    · rename_i hc
      rw [if_neg hc]
      simp only
      omega
theorem walk_pathJoins (s t : ByteArray) (A : Option Addr) (n c : Nat) (xs : List Int) (B : Option Addr) (m d : Nat) (ys : List Int) (hs : s.size ≤ 9223372036854775807) (ht : t.size ≤ 9223372036854775807) (w : World)
    (hx : (Kd.int .i64).C w A n xs) (hy : (Kd.int .i64).C w B m ys) (ix : ∀ x ∈ xs, I64 x) (iy : ∀ x ∈ ys, I64 x) :
    Calls Tryd.prog 18 #[.string s, .string t, .slice A n c, .slice B m d] w fun e w' => e = .returned (.bool true) ∧ Below w.heap.size w w' := by
  have HX := Aside0.mk hx
  have HY := Aside0.mk hy
  have IX := Aside0.mk ix
  have IY := Aside0.mk iy
  clear hx hy ix iy
  go_enter Tryd.func18, Tryd.ntmps18
  go_wp2_with fail
  refine (Text20_calls s A n c xs false w HX.out IX.out hs).mono ?_
  rintro e w1 ⟨⟨T, rfl, hT⟩, hb1⟩
  have HB1 := Aside0.mk hb1
  clear hb1
  go_wp2_with fail
  refine (Text20_calls t B m d ys false w1 (Kd.C_below HY.out HB1.out) IY.out ht).mono ?_
  rintro e w2 ⟨⟨U, rfl, hU⟩, hb2⟩
  have HB2 := Aside0.mk (below_step HB1.out hb2)
  clear hb2 HB1
  go_wp2_with fail
  refine (Parse_calls T w2 (by omega)).mono ?_
  rintro e w3 ⟨⟨v3, rfl, hR3⟩, hb3⟩
  have HB3 := Aside0.mk (below_step HB2.out hb3)
  clear hb3 HB2
  go_wp2_with fail
  refine (Parse_calls U w3 (by omega)).mono ?_
  rintro e w4 ⟨⟨v4, rfl, hR4⟩, hb4⟩
  have HB4 := Aside0.mk (below_step HB3.out hb4)
  have hR3' := Kd.R_below hR3 hb4
  clear hb4 HB3 hR3
  obtain ⟨p, hp⟩ : ∃ p, parseF (bytesOf T) = p := ⟨_, rfl⟩
  obtain ⟨q, hq⟩ : ∃ q, parseF (bytesOf U) = q := ⟨_, rfl⟩
  obtain ⟨x, e1⟩ := p
  obtain ⟨y, e2⟩ := q
  rw [hp] at hR3' ⊢
  rw [hq] at hR4 ⊢
  have hxl : e1 = 0 → x.length ≤ 32 := fun h => by have := parseF_len (bytesOf T); rw [hp] at this; exact this h
  have hyl : e2 = 0 → y.length ≤ 32 := fun h => by have := parseF_len (bytesOf U); rw [hq] at this; exact this h
  have HP := Aside0.mk hp
  have HQ := Aside0.mk hq
  have HR3 := Aside0.mk hR3'
  have HR4 := Aside0.mk hR4
  obtain ⟨A3, c3, rfl, hl3, hC3⟩ := Kd.R_reads hR3'
  obtain ⟨A4, c4, rfl, hl4, hC4⟩ := Kd.R_reads hR4
  have HC3 := Aside0.mk hC3
  have HC4 := Aside0.mk hC4
  clear hp hq hR3' hR4 hC3 hC4
  by_cases h1 : e1 = 0
  · subst h1
    have hxl := hxl rfl
    by_cases h2 : e2 = 0
    · subst h2
      have hyl := hyl rfl
      by_cases h3 : 32 < x.length + y.length
      · go_wp2_with (go_at_call 22; refine (wakes20_calls _).mono ?_; rintro e w5 ⟨rfl, hb5⟩)
        go_ret
        exact ⟨rfl, below_step HB4.out hb5⟩
      · have hcase : (∃ g y0 y', A4 = some ⟨g, 0, none⟩ ∧ y = y0 :: y' ∧ w4.cell? ⟨g, 0, none⟩ = some (.int .i64 y0.kind)) ∨ y = [] := by
          cases y with
          | nil => exact .inr rfl
          | cons y0 y' =>
            obtain ⟨g, c, he, -, -, hc⟩ := stps_flat HR4.out (by simp)
            obtain ⟨rfl, -, -⟩ := Value.slice.inj he
            exact .inl ⟨g, y0, y', rfl, rfl, (hc 0 _ rfl).1⟩
        have main : (∀ s, y.head? = some s → s.kind ≠ 1) → parseF (bytesOf (T ++ U)) = (x ++ y, 0) := fun h => by
          rw [bytesOf_append]
          exact parseF_join HP.out HQ.out (by omega) h
        have hpc := Parse_calls (T ++ U) w4 (by rw [ByteArray.size_append]; omega)
        unfold ParsePost at hpc
        rcases hcase with ⟨g, y0, y', rfl, hy0, hk⟩ | hy0
        · by_cases hk1 : y0.kind = 1
          · rw [hk1] at hk
            have hyl0 : 0 < y.length := by rw [hy0]; simp
            clear main hpc hy0 hk1
            go_wp2_with (go_at_call 22; refine (wakes20_calls _).mono ?_; rintro e w5 ⟨rfl, hb5⟩)
            go_ret
            exact ⟨rfl, below_step HB4.out hb5⟩
          · have hk1b : (y0.kind == 1) = false := by simpa using hk1
            have hyl0 : 0 < y.length := by rw [hy0]; simp
            have hm := main (fun s hs => by rw [hy0] at hs; simp at hs; rw [← hs]; exact hk1)
            rw [hm] at hpc
            obtain ⟨z, hz⟩ : ∃ z, x ++ y = z := ⟨_, rfl⟩
            rw [hz] at hpc
            have HZ := Aside0.mk hz
            have HPC := Aside0.mk hpc
            clear main hpc hy0 hk1 hm hz
            go_wp2_with (first
              | (go_at_call 37; refine HPC.out.mono ?_; rintro e w5 ⟨⟨v5, rfl, hR5⟩, hb5⟩; obtain ⟨A5, c5, rfl, hl5, hC5⟩ := Kd.R_reads hR5; have HR5 := Aside0.mk hR5; clear hR5)
              | (go_at_call 62; refine (CopyS_calls A3 x.length c3 x w5 (Kd.C_below HC3.out hb5) (by omega)).mono ?_; rintro e w6 ⟨v6, rfl, hR6, hb6⟩)
              | (at_builtin; refine gate_guard (by rfl) ?_; refine Kd.R_append_rows (w0 := w5) (W := w6) kStp (Rr := kStp.K w6) w5.heap.size rfl (.tmp 72) (.tmp 73) 22 27 (.agg #[.int .i64 0, .string ⟨#[]⟩, .int .i64 0]) 32 rfl Tryd.underlying22 info27 rfl (by decide) (by decide) v6 x y (some ⟨g, 0, none⟩) y.length c4 (fun _ => True) (fun _ => False) rfl rfl hR6 (Kd.C_below HC4.out (below_step hb5 hb6)) (fun x cs h => kStp_M.2 (kStp_K.1 h)) (fun _ h => h.elim) (fun _ _ => trivial) hb6 hb6.size (by omega) ?_; intro v7 w7 hR7 hb7 hg7 hat7; rw [HZ.out] at hR7; obtain ⟨A7, c7, rfl, hl7, hC7⟩ := Kd.R_reads hR7; have HR7 := Aside0.mk hR7; clear hR7)
              | (go_at_call 38; refine (SameS_calls A5 A7 z.length c5 c7 z w7 (Kd.C_below hC5 hb7) hC7).mono ?_; rintro e w8 ⟨rfl, hb8⟩)
              | (go_at_call 22; refine (wakes20_calls _).mono ?_; rintro e w9 ⟨rfl, hb9⟩))
            go_ret
            exact ⟨rfl, below_step (below_step (below_step (below_step HB4.out hb5) hb7) hb8) hb9⟩
        · have hyl0 : y.length = 0 := by rw [hy0]; rfl
          have hm := main (fun s hs => by rw [hy0] at hs; simp at hs)
          have hyl1 : ¬ 0 < y.length := by omega
          have HY0 := Aside0.mk hy0
          have hc4 : (Value.slice A4 y.length c4) = .slice A4 0 c4 := by rw [hyl0]
          clear hyl0 hc4
          rw [hm] at hpc
          obtain ⟨z, hz⟩ : ∃ z, x ++ y = z := ⟨_, rfl⟩
          rw [hz] at hpc
          have HZ := Aside0.mk hz
          have HPC := Aside0.mk hpc
          clear main hpc hy0 hm hz
          go_wp2_with (first
            | (go_at_call 37; refine HPC.out.mono ?_; rintro e w5 ⟨⟨v5, rfl, hR5⟩, hb5⟩; obtain ⟨A5, c5, rfl, hl5, hC5⟩ := Kd.R_reads hR5; have HR5 := Aside0.mk hR5; clear hR5)
            | (go_at_call 62; refine (CopyS_calls A3 x.length c3 x w5 (Kd.C_below HC3.out hb5) (by omega)).mono ?_; rintro e w6 ⟨v6, rfl, hR6, hb6⟩)
            | (at_builtin; refine gate_guard (by rfl) ?_; refine Kd.R_append_rows (w0 := w5) (W := w6) kStp (Rr := kStp.K w6) w5.heap.size rfl (.tmp 72) (.tmp 73) 22 27 (.agg #[.int .i64 0, .string ⟨#[]⟩, .int .i64 0]) 32 rfl Tryd.underlying22 info27 rfl (by decide) (by decide) v6 x y A4 y.length c4 (fun _ => True) (fun _ => False) rfl rfl hR6 (Kd.C_below HC4.out (below_step hb5 hb6)) (fun x cs h => kStp_M.2 (kStp_K.1 h)) (fun _ h => h.elim) (fun _ _ => trivial) hb6 hb6.size (by omega) ?_; intro v7 w7 hR7 hb7 hg7 hat7; rw [HZ.out] at hR7; obtain ⟨A7, c7, rfl, hl7, hC7⟩ := Kd.R_reads hR7; have HR7 := Aside0.mk hR7; clear hR7)
            | (go_at_call 38; refine (SameS_calls A5 A7 z.length c5 c7 z w7 (Kd.C_below hC5 hb7) hC7).mono ?_; rintro e w8 ⟨rfl, hb8⟩)
            | (go_at_call 22; refine (wakes20_calls _).mono ?_; rintro e w9 ⟨rfl, hb9⟩))
          go_ret
          exact ⟨rfl, below_step (below_step (below_step (below_step HB4.out hb5) hb7) hb8) hb9⟩
    · have b2 : (e2 != 0) = true := by simpa using h2
      clear hyl h2
      go_wp2_with (go_at_call 22; refine (wakes20_calls _).mono ?_; rintro e w5 ⟨rfl, hb5⟩)
      go_ret
      exact ⟨rfl, below_step HB4.out hb5⟩
  · have b1 : (e1 != 0) = true := by simpa using h1
    clear hxl hyl h1
    go_wp2_with (go_at_call 22; refine (wakes20_calls _).mono ?_; rintro e w5 ⟨rfl, hb5⟩)
    go_ret
    exact ⟨rfl, below_step HB4.out hb5⟩
end Go.Proofs.YtllgfccckcgekaaDoor
