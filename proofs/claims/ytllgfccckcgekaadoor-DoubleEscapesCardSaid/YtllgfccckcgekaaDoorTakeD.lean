/- What double.Take computes. Conditions: bytes are bytes; at most 1000000 of them. -/
import Derived.Test.YtllgfccckcgekaaDoorEsc
import Derived.Test.YtllgfccckcgekaaDoorShC
namespace Go.Proofs.YtllgfccckcgekaaDoor
set_option maxRecDepth 100000
set_option maxHeartbeats 1000000
open Go.RowKit Go.Proofs.YtllgfccckcgekaaDoorW.PrintWords Go.Proofs.YtllgfccckcgekaaDoorW.PrintLast Go.Proofs.YtllgfccckcgekaaDoorW.PrintMore

theorem escL_rng {c r : Int} (h : escL c = some r) (h0 : 0 ≤ c) (h1 : c ≤ 255) : 0 ≤ r ∧ r ≤ 1114111 := by
  have key : ∀ c : Fin 256, (match escL (c.val : Int) with | some r => decide (0 ≤ r) && decide (r ≤ 1114111) | none => true) = true := by decide +kernel
  have := byte_fin (P := fun c => (match escL c with | some r => decide (0 ≤ r) && decide (r ≤ 1114111) | none => true) = true) key c h0 h1
  simp only [h] at this
  simpa using this
theorem escF_rng {l : List Int} {r : Int} {k : Nat} (h : escF l = some (r, k)) (hb : Byt l) : 0 ≤ r ∧ r ≤ 1114111 := by
  cases l with
  | nil => simp [escF] at h
  | cons c t =>
    simp only [escF] at h
    have hc := hb c (by simp)
    split at h
    · rename_i r' hr
      simp at h
      rw [← h.1]
      exact escL_rng hr hc.1 hc.2
    · split at h
      · cases h
      · split at h
        · cases h
        · rename_i u hu
          split at h
          · rename_i ho
            simp at h
            rw [← h.1]
            simp [runeOk] at ho
            exact ⟨hexN_pos _ _ _ _ hu (Int.le_refl _), ho.1⟩
          · cases h
theorem enc_le (r : Int) : (Lib.encodeRuneZ r).length ≤ 4 := by
  unfold Lib.encodeRuneZ
  split
  · simp
  · split
    · simp
    · split
      · simp
      · split <;> simp
def takeRet (o : Option (List Int × Nat)) : Value := match o with | some (v, n) => .tuple #[.string (strOfNums v), .int .i64 n, .bool true] | none => .tuple #[.string ⟨#[]⟩, .int .i64 0, .bool false]
theorem AppendRune_calls (v : Value) (xs : List Int) (r : Int) (base : Nat) (w : World) (hr : (Kd.int .u8).R 5 w base (fun _ => True) v xs) (h0 : 0 ≤ r) (h1 : r ≤ 1114111) (hl : xs.length ≤ 100000000) (hb : base ≤ w.heap.size) :
    Calls Tryd.prog 93 #[v, .int .i32 r] w fun e w' => ∃ v', e = .returned v' ∧ (Kd.int .u8).R 5 w' base (fun _ => True) v' (xs ++ Lib.encodeRuneZ r) ∧ Below base w w' := by
  have ho := Kd.own_of_R hr
  refine (Tryd.utf8_AppendRune_plain base v xs.length _ r (by omega) (by omega) w ho (by omega) hb).mono ?_
  rintro e w' ⟨v', rfl, hown, o, hg⟩
  refine ⟨v', rfl, Kd.R_of_own ?_ (fun _ _ => trivial), ((Below.refl base w).alloc hb o).grown hg (by simp; omega) (fun j hj => own_base ho j hj)⟩
  have e1 : encs (Value.int .u8) (xs ++ Lib.encodeRuneZ r) = encs (Value.int .u8) xs ++ Lib.runeCells r := by simp [encs, Lib.runeCells]
  have e2 : (xs ++ Lib.encodeRuneZ r).length = xs.length + (Lib.runeCells r).length := by simp [Lib.runeCells]
  rw [e1, e2]
  exact hown
theorem takeQ_cons {i : Nat} {xs : List Int} {x : Int} (hx : xs[i]? = some x) : xs.drop i = x :: xs.drop (i + 1) := by
  obtain ⟨h1, h2⟩ := List.getElem?_eq_some_iff.1 hx
  rw [List.drop_eq_getElem_cons h1, h2]
theorem TakeD_calls (A : Option Addr) (m c : Nat) (xs : List Int) (w : World) (hx : (Kd.int .u8).C w A m xs) (bx : Byt xs) (hc : m ≤ c) (hm : m ≤ 1000000) :
    Calls Tryd.prog 52 #[.slice A m c] w fun e w' => e = .returned (takeRet (takeD xs)) ∧ Below w.heap.size w w' := by
  have HX := Aside0.mk hx
  have HBX := Aside0.mk bx
  have hl := hx.1
  by_cases hm0 : m = 0
  · subst hm0
    have h0 : xs = [] := List.eq_nil_of_length_eq_zero hl
    have H0 := Aside0.mk h0
    clear hx bx h0
    go_enter Tryd.func52, Tryd.ntmps52
    go_wp2
    go_ret3
    exact ⟨by rw [H0.out]; rfl, Below.refl _ _⟩
  · have hm0z : ((m : Int) == 0) = false := by simpa using hm0
    obtain ⟨ad, rfl, hcell⟩ := Kd.at_int hx 0 (by omega) (by omega)
    obtain ⟨x0, hx0⟩ : ∃ x, rd xs 0 = x := ⟨_, rfl⟩
    rw [hx0, Int.toNat_zero, show ad.add 0 = ad from rfl] at hcell
    have hget0 : xs[0]? = some x0 := by rw [← hx0]; simp [rd, List.getElem?_eq_getElem (show 0 < xs.length by omega)]
    have hxs : xs = x0 :: xs.drop 1 := by
      have := takeQ_cons hget0
      simpa using this
    by_cases h34 : x0 = 34
    · subst h34
      have HT : Aside0 (takeD xs = takeQ m [] 1 (xs.drop 1)) := ⟨by
        obtain ⟨t, ht⟩ : ∃ t, xs.drop 1 = t := ⟨_, rfl⟩
        rw [ht] at hxs ⊢
        have e : t.length + 1 = m := by rw [← ht, List.length_drop]; omega
        rw [hxs]
        simp only [takeD, e]⟩
      clear hx bx hxs hget0 hx0
      go_enter Tryd.func52, Tryd.ntmps52
      go_wp2
      go_loopw [6, 5, 7, 8, 9] (fun i v5 _ _ _ wr => ∃ (k f : Nat) (out : List Int), i = .int .i64 k ∧ 1 ≤ k ∧ k ≤ m ∧ Aside0 ((Kd.int .u8).R 5 wr w.heap.size (fun _ => True) v5 out) ∧ Aside0 (Below w.heap.size w wr) ∧ Aside0 (out.length ≤ 4 * k) ∧ Aside0 (m < k + f) ∧ Aside0 (takeD xs = takeQ f out k (xs.drop k))) (fun i _ _ _ _ _ => m - (intOf i).toNat)
      case atStart => exact ⟨1, m, [], rfl, by omega, by omega, ⟨Kd.R_nil _ _ _ _ _⟩, ⟨Below.refl _ _⟩, ⟨by simp⟩, ⟨by omega⟩, HT⟩
      case round =>
        obtain ⟨k, f, out, rfl, hk1, hkm, HR, HB, HL, HF, HQ⟩ := hrel
        clear HT
        by_cases hlt : k < m
        · have hgk : xs[k]? = some (rd xs k) := by simp [rd, List.getElem?_eq_getElem (show k < xs.length by omega)]
          obtain ⟨ad', he', hck⟩ := Kd.at_int (Kd.C_below HX.out HB.out) k (by omega) (by omega)
          cases he'
          rw [Int.toNat_natCast] at hck
          obtain ⟨x, hxe⟩ : ∃ x, rd xs k = x := ⟨_, rfl⟩
          rw [hxe] at hck hgk
          have hbx := HBX.out x (List.mem_of_getElem? hgk)
          have hdr := takeQ_cons hgk
          obtain ⟨f, rfl⟩ : ∃ f', f = f' + 1 := ⟨f - 1, by have := HF.out; omega⟩
          have hq := HQ.out
          rw [hdr] at hq
          simp only [takeQ] at hq
          have HDR := Aside0.mk hdr
          have HBXX := Aside0.mk hbx
          clear hxe hgk hdr hbx
          by_cases h1 : x = 10 ∨ x = 13
          · rw [if_pos h1] at hq
            have HQ2 := Aside0.mk hq
            clear hq
            rcases h1 with rfl | rfl
            all_goals
              go_wp2
              go_ret3
              exact ⟨by rw [HQ2.out]; rfl, HB.out⟩
          · rw [if_neg h1] at hq
            have b10 : (x == 10) = false := by simp; omega
            have b13 : (x == 13) = false := by simp; omega
            clear h1
            by_cases h2 : x = 34
            · rw [if_pos h2] at hq
              subst h2
              have HQ2 := Aside0.mk hq
              obtain ⟨Ao, co, rfl, hlo, hCo⟩ := Kd.R_reads HR.out
              have hconv := Kd.C_string (c := co) Tryd.underlying36 Tryd.underlying5 Tryd.underlying9 hCo
              clear hq hCo b10 b13
              go_wp2
              go_ret3
              exact ⟨by rw [HQ2.out]; rfl, HB.out⟩
            · rw [if_neg h2] at hq
              have b34 : (x == 34) = false := by simpa using h2
              clear h2
              by_cases h3 : x = 92
              · rw [if_pos h3] at hq
                subst h3
                obtain ⟨A', hcut, hC'⟩ := cutD (k + 1) (Kd.C_below HX.out HB.out) (by omega) hc
                have hcut1 : ∀ W : World, (Instr.slice 36 (.slice (some ad) m c) (some (.int .i64 ((k : Int) + 1))) none none).run Tryd.prog W = .ok (.slice A' (m - (k + 1)) (c - (k + 1))) W := hcut
                have hby : Byt (xs.drop (k + 1)) := fun y hy => HBX.out y (List.mem_of_mem_drop hy)
                have HE := Aside0.mk (escape_calls A' (m - (k + 1)) (c - (k + 1)) (xs.drop (k + 1)) wr hC' hby (by omega))
                clear hcut hC'
                cases he : escF (xs.drop (k + 1)) with
                | none =>
                  rw [he] at hq HE
                  have HQ2 := Aside0.mk hq
                  clear hq he
                  unfold escRet at HE
                  go_wp2_with (go_at_call 92; refine HE.out.mono ?_; rintro e w' ⟨rfl, hb⟩)
                  go_ret3
                  exact ⟨by rw [HQ2.out]; rfl, below_step HB.out hb⟩
                | some rk =>
                  obtain ⟨r, q⟩ := rk
                  rw [he] at hq HE
                  have hrr := escF_rng he hby
                  have hkk := escF_le he
                  rw [List.length_drop] at hkk
                  have HQ2 := Aside0.mk hq
                  have hol : out.length ≤ 4000000 := by have := HL.out; omega
                  have hr0 := hrr.1
                  have hr1 := hrr.2
                  have hq1 := hkk.1
                  have hq2 := hkk.2
                  clear hq he hrr hkk
                  unfold escRet at HE
                  go_wp2_with (first
                    | (go_at_call 92; refine HE.out.mono ?_; rintro e w' ⟨rfl, hb⟩)
                    | (go_at_call 93; refine (AppendRune_calls u5 out r w.heap.size w' (Kd.R_below HR.out hb) hr0 hr1 (by omega) (below_step HB.out hb).size).mono ?_; rintro e w4 ⟨v4, rfl, hR4, hB4⟩))
                  go_roundw
                  case rel =>
                    refine ⟨k + 1 + q, f, out ++ Lib.encodeRuneZ r, by go_num, by omega, by omega, ⟨hR4⟩, ⟨(below_step HB.out hb).trans hB4⟩, ⟨?_⟩, ⟨by have := HF.out; omega⟩, ⟨?_⟩⟩
                    · have := HL.out; have := enc_le r; rw [List.length_append]; omega
                    · rw [HQ2.out, List.drop_drop]
                  case measure => simp [intOf]; omega
              · rw [if_neg h3] at hq
                have b92 : (x == 92) = false := by simpa using h3
                have HQ2 := Aside0.mk hq
                have hol : out.length ≤ 4000000 := by have := HL.out; omega
                clear hq h3
                go_wp2_with (at_builtin; refine Kd.R_append (w0 := w) (W := wr) (Kd.int .u8) w.heap.size rfl (.tmp 29) (.tmp 34) 36 5 (.int .u8 0) 1 rfl Tryd.underlying36 info5 rfl (by decide) (by decide) u5 out x [.int .u8 x] (fun _ => True) (fun _ => False) rfl rfl rfl (fun _ h => h.elim) (fun _ _ => trivial) HR.out HB.out HB.out.size (by omega) ?_; intro v4 w4 hR4 hB4 hg4 hat4)
                go_roundw
                case rel => exact ⟨k + 1, f, out ++ [x], by go_num, by omega, by omega, ⟨hR4⟩, ⟨hB4⟩, ⟨by have := HL.out; simp; omega⟩, ⟨by have := HF.out; omega⟩, HQ2⟩
                case measure => simp [intOf]; omega
        · obtain rfl : k = m := by omega
          have H : Aside0 (takeD xs = none) := ⟨by
            rw [HQ.out, List.drop_of_length_le (by omega)]
            cases f <;> rfl⟩
          go_wp2
          go_ret3
          exact ⟨by rw [H.out]; rfl, HB.out⟩
    · have H : Aside0 (takeD xs = none) := ⟨by
        rw [hxs]
        unfold takeD
        split
        · rename_i h; simp at h; exact absurd h.1 h34
        · rfl⟩
      have hb34 : (x0 != 34) = true := by simpa using h34
      clear hx bx hxs hget0 hx0 h34
      go_enter Tryd.func52, Tryd.ntmps52
      go_wp2
      go_ret3
      exact ⟨by rw [H.out]; rfl, Below.refl _ _⟩
end Go.Proofs.YtllgfccckcgekaaDoor
