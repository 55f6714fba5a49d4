/- What scholiumref01.TakeDouble computes. Conditions: bytes are bytes; at most 1000000 of them. -/
import Derived.Test.YtllgfccckcgekaaDoorRefA
namespace Go.Proofs.YtllgfccckcgekaaDoor
set_option maxRecDepth 100000
set_option maxHeartbeats 8000000
open Go.RowKit Go.Proofs.YtllgfccckcgekaaDoorW.PrintWords Go.Proofs.YtllgfccckcgekaaDoorW.PrintLast Go.Proofs.YtllgfccckcgekaaDoorW.PrintMore

theorem hexN_at {n k : Nat} {v : Int} {xs : List Int} (hk : k < n) : hexN (n - k) v (xs.drop k) = match xs[k]? with | none => none | some x => match hexV x with | none => none | some d => hexN (n - (k + 1)) (16 * v + d) (xs.drop (k + 1)) := by
  cases hx : xs[k]? with
  | some x => exact hexN_step hk hx
  | none =>
    have hl : xs.length ≤ k := by
      rcases Nat.lt_or_ge k xs.length with h | h
      · rw [List.getElem?_eq_getElem h] at hx; cases hx
      · exact h
    rw [List.drop_of_length_le hl]
    obtain ⟨q, hq⟩ : ∃ q, n - k = q + 1 := ⟨n - k - 1, by omega⟩
    rw [hq]
    rfl
theorem add_pos (ad : Addr) (j : Nat) (h : 0 < j) : ad.add j = ⟨ad.block, ad.off + j, none⟩ := by
  unfold Addr.add
  rw [if_neg (by omega)]
theorem escL_ok {c r : Int} (h : escL c = some r) (h0 : 0 ≤ c) (h1 : c ≤ 255) : 0 ≤ r ∧ runeOk r = true := by
  have key : ∀ c : Fin 256, (match escL (c.val : Int) with | some r => decide (0 ≤ r) && runeOk r | none => true) = true := by decide +kernel
  have := byte_fin (P := fun c => (match escL c with | some r => decide (0 ≤ r) && runeOk r | none => true) = true) key c h0 h1
  simp only [h] at this
  simpa using this
theorem TakeR_calls (A : Option Addr) (m c : Nat) (xs : List Int) (w : World) (hx : (Kd.int .u8).C w A m xs) (bx : Byt xs) (hm : m ≤ 1000000) :
    Calls Tryd.prog 100 #[.slice A m c] w fun e w' => e = .returned (takeRet (takeD xs)) ∧ Below w.heap.size w w' := by
  have HX := Aside0.mk hx
  have HBX := Aside0.mk bx
  have hl := hx.1
  by_cases hm0 : m = 0
  · subst hm0
    have h0 : xs = [] := List.eq_nil_of_length_eq_zero hl
    have H0 := Aside0.mk h0
    clear hx bx h0
    go_enter Tryd.func100, Tryd.ntmps100
    go_wp2
    go_ret3
    exact ⟨by rw [H0.out]; rfl, Below.refl _ _⟩
  · have hm0z : ((m : Int) == 0) = false := by simpa using hm0
    obtain ⟨ad, rfl, hcell⟩ := Kd.at_int hx 0 (by omega) (by omega)
    obtain ⟨x0, hx0⟩ : ∃ x, rd xs 0 = x := ⟨_, rfl⟩
    rw [hx0, Int.toNat_zero, show ad.add 0 = ad from rfl] at hcell
    have hget0 : xs[0]? = some x0 := by rw [← hx0]; simp [rd, List.getElem?_eq_getElem (show 0 < xs.length by omega)]
    have hxs : xs = x0 :: xs.drop 1 := by
      have := takeQ_cons hget0
      simpa using this
    by_cases h34 : x0 = 34
    · subst h34
      have HT : Aside0 (takeD xs = takeQ m [] 1 (xs.drop 1)) := ⟨by
        obtain ⟨t, ht⟩ : ∃ t, xs.drop 1 = t := ⟨_, rfl⟩
        rw [ht] at hxs ⊢
        have e : t.length + 1 = m := by rw [← ht, List.length_drop]; omega
        rw [hxs]
        simp only [takeD, e]⟩
      clear hx bx hxs hget0 hx0
      go_enter Tryd.func100, Tryd.ntmps100
      go_wp2
      go_loopw [6, 5, 7, 8, 9, 10, 11] (fun i v5 _ _ _ _ _ wr => ∃ (k f : Nat) (out : List Int), i = .int .i64 k ∧ 1 ≤ k ∧ k ≤ m ∧ Aside0 ((Kd.int .u8).R 5 wr w.heap.size (fun _ => True) v5 out) ∧ Aside0 (Below w.heap.size w wr) ∧ Aside0 (out.length ≤ 4 * k) ∧ Aside0 (m < k + f) ∧ Aside0 (takeD xs = takeQ f out k (xs.drop k))) (fun i _ _ _ _ _ _ _ => m - (intOf i).toNat)
      case atStart => exact ⟨1, m, [], rfl, by omega, by omega, ⟨Kd.R_nil _ _ _ _ _⟩, ⟨Below.refl _ _⟩, ⟨by simp⟩, ⟨by omega⟩, HT⟩
      case round =>
        obtain ⟨k, f, out, rfl, hk1, hkm, HR, HB, HL, HF, HQ⟩ := hrel
        clear HT
        by_cases hlt : k < m
        · have hgk : xs[k]? = some (rd xs k) := by simp [rd, List.getElem?_eq_getElem (show k < xs.length by omega)]
          obtain ⟨ad', he', hck⟩ := Kd.at_int (Kd.C_below HX.out HB.out) k (by omega) (by omega)
          cases he'
          rw [Int.toNat_natCast] at hck
          obtain ⟨x, hxe⟩ : ∃ x, rd xs k = x := ⟨_, rfl⟩
          rw [hxe] at hck hgk
          have hbx := HBX.out x (List.mem_of_getElem? hgk)
          have hdr := takeQ_cons hgk
          obtain ⟨f, rfl⟩ : ∃ f', f = f' + 1 := ⟨f - 1, by have := HF.out; omega⟩
          have hq := HQ.out
          rw [hdr] at hq
          simp only [takeQ] at hq
          have HDR := Aside0.mk hdr
          have HBXX := Aside0.mk hbx
          clear hxe hgk hdr hbx
          by_cases h1 : x = 10 ∨ x = 13
          · rw [if_pos h1] at hq
            have HQ2 := Aside0.mk hq
            clear hq
            rcases h1 with rfl | rfl
            all_goals
              go_wp2
              go_ret3
              exact ⟨by rw [HQ2.out]; rfl, HB.out⟩
          · rw [if_neg h1] at hq
            have b10 : (x == 10) = false := by simp; omega
            have b13 : (x == 13) = false := by simp; omega
            clear h1
            by_cases h2 : x = 34
            · rw [if_pos h2] at hq
              subst h2
              have HQ2 := Aside0.mk hq
              obtain ⟨Ao, co, rfl, hlo, hCo⟩ := Kd.R_reads HR.out
              have hconv := Kd.C_string (c := co) Tryd.underlying36 Tryd.underlying5 Tryd.underlying9 hCo
              clear hq hCo b10 b13
              go_wp2
              go_ret3
              exact ⟨by rw [HQ2.out]; rfl, HB.out⟩
            · rw [if_neg h2] at hq
              have b34 : (x == 34) = false := by simpa using h2
              clear h2
              by_cases h3 : x = 92
              · rw [if_pos h3] at hq
                subst h3
                by_cases hk1m : k + 1 < m
                · obtain ⟨ad1, he1, hc1⟩ := Kd.at_int (Kd.C_below HX.out HB.out) ((k + 1 : Nat) : Int) (by omega) (by omega)
                  cases he1
                  rw [Int.toNat_natCast, add_pos _ _ (by omega)] at hc1
                  obtain ⟨c', hce⟩ : ∃ c', rd xs ((k + 1 : Nat) : Int) = c' := ⟨_, rfl⟩
                  rw [hce] at hc1
                  have hg1 : xs[k + 1]? = some c' := by rw [← hce]; simp only [rd, Int.toNat_natCast, List.getD_eq_getElem?_getD, List.getElem?_eq_getElem (show k + 1 < xs.length by omega), Option.getD_some]
                  have hbc := HBX.out c' (List.mem_of_getElem? hg1)
                  have hdr1 : xs.drop (k + 1) = c' :: xs.drop (k + 2) := takeQ_cons hg1
                  rw [hdr1] at hq
                  have HQ3 : Aside0 (takeD xs = match escF (c' :: xs.drop (k + 2)) with | none => none | some (r, q) => takeQ f (out ++ Lib.encodeRuneZ r) (k + 1 + q) ((c' :: xs.drop (k + 2)).drop q)) := ⟨hq⟩
                  have hol : out.length ≤ 4000000 := by have := HL.out; omega
                  clear hq hce hg1 hdr1
                  by_cases hc : c' = 120
                  · subst hc
                    have hdn : digN 120 = 2 := rfl
                    have hes : escL 120 = none := rfl
                    have HE : Aside0 (escF (120 :: xs.drop (k + 2)) = match hexN 2 0 (xs.drop (k + 2)) with | none => none | some u => if runeOk u then some (u, 2 + 1) else none) := ⟨rfl⟩
                    clear hdn hes
                    go_wp2
                    obtain ⟨wo, rfl⟩ : ∃ wo, wo = wr := ⟨_, rfl⟩
                    go_loop [10, 11] (fun r j => ∃ (i : Nat) (v : Int), i ≤ 2 ∧ j = .int .i64 i ∧ r = .int .i64 v ∧ 0 ≤ v ∧ Aside0 (v < 16 ^ i) ∧ Aside0 (hexN 2 0 (xs.drop (k + 2)) = hexN (2 - i) v ((xs.drop (k + 2)).drop i))) (fun _ j => 2 - (intOf j).toNat)
                    case atStart => exact ⟨0, 0, by omega, rfl, rfl, by omega, ⟨by decide⟩, ⟨rfl⟩⟩
                    case round =>
                      obtain ⟨i, v, hi, rfl, rfl, hv, HV, HH⟩ := hrel
                      by_cases hin : i < 2
                      · have hst := hexN_at (v := v) (xs := xs.drop (k + 2)) hin
                        rw [List.getElem?_drop] at hst
                        by_cases hm2 : k + 2 + i < m
                        · obtain ⟨ad2, he2, hc2⟩ := Kd.at_int (Kd.C_below HX.out HB.out) ((k + 2 + i : Nat) : Int) (by omega) (by omega)
                          cases he2
                          rw [Int.toNat_natCast] at hc2
                          have hc2' := hc2
                          rw [add_pos _ _ (by omega)] at hc2'
                          obtain ⟨y, hy⟩ : ∃ y, rd xs ((k + 2 + i : Nat) : Int) = y := ⟨_, rfl⟩
                          rw [hy] at hc2
                          have hgy : xs[k + 2 + i]? = some y := by rw [← hy]; simp only [rd, Int.toNat_natCast, List.getD_eq_getElem?_getD, List.getElem?_eq_getElem (show k + 2 + i < xs.length by omega), Option.getD_some]
                          have hby := HBX.out y (List.mem_of_getElem? hgy)
                          rw [hgy] at hst
                          dsimp only at hst
                          have hdc := digitR_calls y hby.1 hby.2 wo
                          have hp := pow_hex (k := i) (by omega) HV.out (d := 15) (by decide)
                          cases hh : hexV y with
                          | none =>
                            rw [hh] at hdc hst
                            have HDC := Aside0.mk hdc
                            have HST := Aside0.mk hst
                            have hv2 := hp.1
                            clear hdc hst hh hgy hy hby hp
                            go_wp2_with (go_at_call 130; refine HDC.out.mono ?_; rintro e w' ⟨rfl, rfl⟩)
                            go_ret3
                            exact ⟨by rw [HQ3.out, HE.out, HH.out, HST.out]; rfl, HB.out⟩
                          | some d =>
                            rw [hh] at hdc hst
                            have hd := (index_hex y hby.1 hby.2).2 d hh
                            have hpp := (pow_hex (k := i) (by omega) HV.out (d := d) hd.2).2
                            have HDC := Aside0.mk hdc
                            have HST := Aside0.mk hst
                            have HPP := Aside0.mk hpp
                            have hd0 := hd.1
                            have hd1 := hd.2
                            have hv2 := hp.1
                            clear hdc hst hh hgy hy hby hp hd hpp
                            go_wp2_with (go_at_call 130; refine HDC.out.mono ?_; rintro e w' ⟨rfl, rfl⟩)
                            go_round
                            case rel => exact ⟨i + 1, 16 * v + d, by omega, by go_num, rfl, by omega, HPP, ⟨by rw [HH.out, HST.out]⟩⟩
                            case measure => simp [intOf]; omega
                        · have hg2 : xs[k + 2 + i]? = none := List.getElem?_eq_none (by omega)
                          rw [hg2] at hst
                          dsimp only at hst
                          have HST := Aside0.mk hst
                          clear hst hg2
                          go_wp2
                          go_ret3
                          exact ⟨by rw [HQ3.out, HE.out, HH.out, HST.out]; rfl, HB.out⟩
                      · obtain rfl : i = 2 := by omega
                        have hhv : hexN 2 0 (xs.drop (k + 2)) = some v := by rw [HH.out]; rfl
                        have hle := hexN_le _ _ _ _ hhv
                        rw [List.length_drop] at hle
                        have HHV := Aside0.mk hhv
                        clear hhv
                        cases hro : runeOk v with
                        | true =>
                          have HE2 : Aside0 (escF (120 :: xs.drop (k + 2)) = some (v, 2 + 1)) := ⟨by rw [HE.out, HHV.out]; simp [hro]⟩
                          have hro' := runeOk_out hro
                          have hro := Aside0.mk hro
                          obtain ⟨r, rfl⟩ : ∃ r, r = v := ⟨_, rfl⟩
                          have hr0 := hv
                          have hr1 := hro'.1
                          rcases hro'.2 with h | h
                          all_goals
                            go_wp2_with (first
                              | (go_at_call 129; refine (utf8R_calls r _ hr0 hro.out).mono ?_; rintro e w5 ⟨v5, rfl, hR5, hb5⟩; obtain ⟨A5, c5, rfl, hl5, hC5⟩ := Kd.R_reads hR5; have HC5 := Aside0.mk hC5; have HR5 := Aside0.mk (Kd.R_below HR.out (hb5)); have HB5 := Aside0.mk (below_step HB.out (hb5)); clear hR5 hC5)
                              | (at_builtin; refine Kd.R_append_rows (w0 := w) (W := w5) (Kd.int .u8) (Rr := (Kd.int .u8).K w5) w.heap.size rfl (.tmp 125) (.tmp 128) 36 5 (.int .u8 0) 1 rfl Tryd.underlying36 info5 rfl (by decide) (by decide) u5 out (Lib.encodeRuneZ r) A5 _ c5 (fun _ => True) (fun _ => False) rfl rfl HR5.out HC5.out (fun _ _ h => h) (fun _ h => h.elim) (fun _ _ => trivial) HB5.out HB5.out.size (by have := enc_le r; omega) ?_; intro v4 w4 hR4 hB4 hg4 hat4))
                            go_roundw
                            case rel =>
                              have hq3 := HQ3.out
                              rw [HE2.out] at hq3
                              exact ⟨k + 2 + 2, f, out ++ Lib.encodeRuneZ r, by go_num, by omega, by omega, ⟨hR4⟩, ⟨hB4⟩, ⟨by have := HL.out; have := enc_le r; rw [List.length_append]; omega⟩, ⟨by have := HF.out; omega⟩, ⟨by rw [hq3]; simp only [List.drop_succ_cons, List.drop_drop]⟩⟩
                            case measure => simp [intOf]; omega
                        | false =>
                          have HE2 : Aside0 (escF (120 :: xs.drop (k + 2)) = none) := ⟨by rw [HE.out, HHV.out]; simp [hro]⟩
                          have hro' : 1114111 < v ∨ (55296 ≤ v ∧ v ≤ 57343) := by simp [runeOk] at hro; omega
                          clear hro
                          rcases hro' with h | ⟨h, h'⟩
                          all_goals
                            go_wp2
                            go_ret3
                            exact ⟨by rw [HQ3.out, HE2.out]; rfl, HB.out⟩
                  · by_cases hc2 : c' = 117
                    · have hc := hc2
                      clear hc2
                      subst hc
                      have hdn : digN 117 = 4 := rfl
                      have hes : escL 117 = none := rfl
                      have HE : Aside0 (escF (117 :: xs.drop (k + 2)) = match hexN 4 0 (xs.drop (k + 2)) with | none => none | some u => if runeOk u then some (u, 4 + 1) else none) := ⟨rfl⟩
                      clear hdn hes
                      go_wp2
                      obtain ⟨wo, rfl⟩ : ∃ wo, wo = wr := ⟨_, rfl⟩
                      go_loop [10, 11] (fun r j => ∃ (i : Nat) (v : Int), i ≤ 4 ∧ j = .int .i64 i ∧ r = .int .i64 v ∧ 0 ≤ v ∧ Aside0 (v < 16 ^ i) ∧ Aside0 (hexN 4 0 (xs.drop (k + 2)) = hexN (4 - i) v ((xs.drop (k + 2)).drop i))) (fun _ j => 4 - (intOf j).toNat)
                      case atStart => exact ⟨0, 0, by omega, rfl, rfl, by omega, ⟨by decide⟩, ⟨rfl⟩⟩
                      case round =>
                        obtain ⟨i, v, hi, rfl, rfl, hv, HV, HH⟩ := hrel
                        by_cases hin : i < 4
                        · have hst := hexN_at (v := v) (xs := xs.drop (k + 2)) hin
                          rw [List.getElem?_drop] at hst
                          by_cases hm2 : k + 2 + i < m
                          · obtain ⟨ad2, he2, hc2⟩ := Kd.at_int (Kd.C_below HX.out HB.out) ((k + 2 + i : Nat) : Int) (by omega) (by omega)
                            cases he2
                            rw [Int.toNat_natCast] at hc2
                            have hc2' := hc2
                            rw [add_pos _ _ (by omega)] at hc2'
                            obtain ⟨y, hy⟩ : ∃ y, rd xs ((k + 2 + i : Nat) : Int) = y := ⟨_, rfl⟩
                            rw [hy] at hc2
                            have hgy : xs[k + 2 + i]? = some y := by rw [← hy]; simp only [rd, Int.toNat_natCast, List.getD_eq_getElem?_getD, List.getElem?_eq_getElem (show k + 2 + i < xs.length by omega), Option.getD_some]
                            have hby := HBX.out y (List.mem_of_getElem? hgy)
                            rw [hgy] at hst
                            dsimp only at hst
                            have hdc := digitR_calls y hby.1 hby.2 wo
                            have hp := pow_hex (k := i) (by omega) HV.out (d := 15) (by decide)
                            cases hh : hexV y with
                            | none =>
                              rw [hh] at hdc hst
                              have HDC := Aside0.mk hdc
                              have HST := Aside0.mk hst
                              have hv2 := hp.1
                              clear hdc hst hh hgy hy hby hp
                              go_wp2_with (go_at_call 130; refine HDC.out.mono ?_; rintro e w' ⟨rfl, rfl⟩)
                              go_ret3
                              exact ⟨by rw [HQ3.out, HE.out, HH.out, HST.out]; rfl, HB.out⟩
                            | some d =>
                              rw [hh] at hdc hst
                              have hd := (index_hex y hby.1 hby.2).2 d hh
                              have hpp := (pow_hex (k := i) (by omega) HV.out (d := d) hd.2).2
                              have HDC := Aside0.mk hdc
                              have HST := Aside0.mk hst
                              have HPP := Aside0.mk hpp
                              have hd0 := hd.1
                              have hd1 := hd.2
                              have hv2 := hp.1
                              clear hdc hst hh hgy hy hby hp hd hpp
                              go_wp2_with (go_at_call 130; refine HDC.out.mono ?_; rintro e w' ⟨rfl, rfl⟩)
                              go_round
                              case rel => exact ⟨i + 1, 16 * v + d, by omega, by go_num, rfl, by omega, HPP, ⟨by rw [HH.out, HST.out]⟩⟩
                              case measure => simp [intOf]; omega
                          · have hg2 : xs[k + 2 + i]? = none := List.getElem?_eq_none (by omega)
                            rw [hg2] at hst
                            dsimp only at hst
                            have HST := Aside0.mk hst
                            clear hst hg2
                            go_wp2
                            go_ret3
                            exact ⟨by rw [HQ3.out, HE.out, HH.out, HST.out]; rfl, HB.out⟩
                        · obtain rfl : i = 4 := by omega
                          have hhv : hexN 4 0 (xs.drop (k + 2)) = some v := by rw [HH.out]; rfl
                          have hle := hexN_le _ _ _ _ hhv
                          rw [List.length_drop] at hle
                          have HHV := Aside0.mk hhv
                          clear hhv
                          cases hro : runeOk v with
                          | true =>
                            have HE2 : Aside0 (escF (117 :: xs.drop (k + 2)) = some (v, 4 + 1)) := ⟨by rw [HE.out, HHV.out]; simp [hro]⟩
                            have hro' := runeOk_out hro
                            have hro := Aside0.mk hro
                            obtain ⟨r, rfl⟩ : ∃ r, r = v := ⟨_, rfl⟩
                            have hr0 := hv
                            have hr1 := hro'.1
                            rcases hro'.2 with h | h
                            all_goals
                              go_wp2_with (first
                                | (go_at_call 129; refine (utf8R_calls r _ hr0 hro.out).mono ?_; rintro e w5 ⟨v5, rfl, hR5, hb5⟩; obtain ⟨A5, c5, rfl, hl5, hC5⟩ := Kd.R_reads hR5; have HC5 := Aside0.mk hC5; have HR5 := Aside0.mk (Kd.R_below HR.out (hb5)); have HB5 := Aside0.mk (below_step HB.out (hb5)); clear hR5 hC5)
                                | (at_builtin; refine Kd.R_append_rows (w0 := w) (W := w5) (Kd.int .u8) (Rr := (Kd.int .u8).K w5) w.heap.size rfl (.tmp 125) (.tmp 128) 36 5 (.int .u8 0) 1 rfl Tryd.underlying36 info5 rfl (by decide) (by decide) u5 out (Lib.encodeRuneZ r) A5 _ c5 (fun _ => True) (fun _ => False) rfl rfl HR5.out HC5.out (fun _ _ h => h) (fun _ h => h.elim) (fun _ _ => trivial) HB5.out HB5.out.size (by have := enc_le r; omega) ?_; intro v4 w4 hR4 hB4 hg4 hat4))
                              go_roundw
                              case rel =>
                                have hq3 := HQ3.out
                                rw [HE2.out] at hq3
                                exact ⟨k + 4 + 2, f, out ++ Lib.encodeRuneZ r, by go_num, by omega, by omega, ⟨hR4⟩, ⟨hB4⟩, ⟨by have := HL.out; have := enc_le r; rw [List.length_append]; omega⟩, ⟨by have := HF.out; omega⟩, ⟨by rw [hq3]; simp only [List.drop_succ_cons, List.drop_drop]⟩⟩
                              case measure => simp [intOf]; omega
                          | false =>
                            have HE2 : Aside0 (escF (117 :: xs.drop (k + 2)) = none) := ⟨by rw [HE.out, HHV.out]; simp [hro]⟩
                            have hro' : 1114111 < v ∨ (55296 ≤ v ∧ v ≤ 57343) := by simp [runeOk] at hro; omega
                            clear hro
                            rcases hro' with h | ⟨h, h'⟩
                            all_goals
                              go_wp2
                              go_ret3
                              exact ⟨by rw [HQ3.out, HE2.out]; rfl, HB.out⟩
                    · by_cases hc3 : c' = 85
                      · have hc := hc3
                        clear hc3
                        subst hc
                        have hdn : digN 85 = 8 := rfl
                        have hes : escL 85 = none := rfl
                        have HE : Aside0 (escF (85 :: xs.drop (k + 2)) = match hexN 8 0 (xs.drop (k + 2)) with | none => none | some u => if runeOk u then some (u, 8 + 1) else none) := ⟨rfl⟩
                        clear hdn hes
                        go_wp2
                        obtain ⟨wo, rfl⟩ : ∃ wo, wo = wr := ⟨_, rfl⟩
                        go_loop [10, 11] (fun r j => ∃ (i : Nat) (v : Int), i ≤ 8 ∧ j = .int .i64 i ∧ r = .int .i64 v ∧ 0 ≤ v ∧ Aside0 (v < 16 ^ i) ∧ Aside0 (hexN 8 0 (xs.drop (k + 2)) = hexN (8 - i) v ((xs.drop (k + 2)).drop i))) (fun _ j => 8 - (intOf j).toNat)
                        case atStart => exact ⟨0, 0, by omega, rfl, rfl, by omega, ⟨by decide⟩, ⟨rfl⟩⟩
                        case round =>
                          obtain ⟨i, v, hi, rfl, rfl, hv, HV, HH⟩ := hrel
                          by_cases hin : i < 8
                          · have hst := hexN_at (v := v) (xs := xs.drop (k + 2)) hin
                            rw [List.getElem?_drop] at hst
                            by_cases hm2 : k + 2 + i < m
                            · obtain ⟨ad2, he2, hc2⟩ := Kd.at_int (Kd.C_below HX.out HB.out) ((k + 2 + i : Nat) : Int) (by omega) (by omega)
                              cases he2
                              rw [Int.toNat_natCast] at hc2
                              have hc2' := hc2
                              rw [add_pos _ _ (by omega)] at hc2'
                              obtain ⟨y, hy⟩ : ∃ y, rd xs ((k + 2 + i : Nat) : Int) = y := ⟨_, rfl⟩
                              rw [hy] at hc2
                              have hgy : xs[k + 2 + i]? = some y := by rw [← hy]; simp only [rd, Int.toNat_natCast, List.getD_eq_getElem?_getD, List.getElem?_eq_getElem (show k + 2 + i < xs.length by omega), Option.getD_some]
                              have hby := HBX.out y (List.mem_of_getElem? hgy)
                              rw [hgy] at hst
                              dsimp only at hst
                              have hdc := digitR_calls y hby.1 hby.2 wo
                              have hp := pow_hex (k := i) (by omega) HV.out (d := 15) (by decide)
                              cases hh : hexV y with
                              | none =>
                                rw [hh] at hdc hst
                                have HDC := Aside0.mk hdc
                                have HST := Aside0.mk hst
                                have hv2 := hp.1
                                clear hdc hst hh hgy hy hby hp
                                go_wp2_with (go_at_call 130; refine HDC.out.mono ?_; rintro e w' ⟨rfl, rfl⟩)
                                go_ret3
                                exact ⟨by rw [HQ3.out, HE.out, HH.out, HST.out]; rfl, HB.out⟩
                              | some d =>
                                rw [hh] at hdc hst
                                have hd := (index_hex y hby.1 hby.2).2 d hh
                                have hpp := (pow_hex (k := i) (by omega) HV.out (d := d) hd.2).2
                                have HDC := Aside0.mk hdc
                                have HST := Aside0.mk hst
                                have HPP := Aside0.mk hpp
                                have hd0 := hd.1
                                have hd1 := hd.2
                                have hv2 := hp.1
                                clear hdc hst hh hgy hy hby hp hd hpp
                                go_wp2_with (go_at_call 130; refine HDC.out.mono ?_; rintro e w' ⟨rfl, rfl⟩)
                                go_round
                                case rel => exact ⟨i + 1, 16 * v + d, by omega, by go_num, rfl, by omega, HPP, ⟨by rw [HH.out, HST.out]⟩⟩
                                case measure => simp [intOf]; omega
                            · have hg2 : xs[k + 2 + i]? = none := List.getElem?_eq_none (by omega)
                              rw [hg2] at hst
                              dsimp only at hst
                              have HST := Aside0.mk hst
                              clear hst hg2
                              go_wp2
                              go_ret3
                              exact ⟨by rw [HQ3.out, HE.out, HH.out, HST.out]; rfl, HB.out⟩
                          · obtain rfl : i = 8 := by omega
                            have hhv : hexN 8 0 (xs.drop (k + 2)) = some v := by rw [HH.out]; rfl
                            have hle := hexN_le _ _ _ _ hhv
                            rw [List.length_drop] at hle
                            have HHV := Aside0.mk hhv
                            clear hhv
                            cases hro : runeOk v with
                            | true =>
                              have HE2 : Aside0 (escF (85 :: xs.drop (k + 2)) = some (v, 8 + 1)) := ⟨by rw [HE.out, HHV.out]; simp [hro]⟩
                              have hro' := runeOk_out hro
                              have hro := Aside0.mk hro
                              obtain ⟨r, rfl⟩ : ∃ r, r = v := ⟨_, rfl⟩
                              have hr0 := hv
                              have hr1 := hro'.1
                              rcases hro'.2 with h | h
                              all_goals
                                go_wp2_with (first
                                  | (go_at_call 129; refine (utf8R_calls r _ hr0 hro.out).mono ?_; rintro e w5 ⟨v5, rfl, hR5, hb5⟩; obtain ⟨A5, c5, rfl, hl5, hC5⟩ := Kd.R_reads hR5; have HC5 := Aside0.mk hC5; have HR5 := Aside0.mk (Kd.R_below HR.out (hb5)); have HB5 := Aside0.mk (below_step HB.out (hb5)); clear hR5 hC5)
                                  | (at_builtin; refine Kd.R_append_rows (w0 := w) (W := w5) (Kd.int .u8) (Rr := (Kd.int .u8).K w5) w.heap.size rfl (.tmp 125) (.tmp 128) 36 5 (.int .u8 0) 1 rfl Tryd.underlying36 info5 rfl (by decide) (by decide) u5 out (Lib.encodeRuneZ r) A5 _ c5 (fun _ => True) (fun _ => False) rfl rfl HR5.out HC5.out (fun _ _ h => h) (fun _ h => h.elim) (fun _ _ => trivial) HB5.out HB5.out.size (by have := enc_le r; omega) ?_; intro v4 w4 hR4 hB4 hg4 hat4))
                                go_roundw
                                case rel =>
                                  have hq3 := HQ3.out
                                  rw [HE2.out] at hq3
                                  exact ⟨k + 8 + 2, f, out ++ Lib.encodeRuneZ r, by go_num, by omega, by omega, ⟨hR4⟩, ⟨hB4⟩, ⟨by have := HL.out; have := enc_le r; rw [List.length_append]; omega⟩, ⟨by have := HF.out; omega⟩, ⟨by rw [hq3]; simp only [List.drop_succ_cons, List.drop_drop]⟩⟩
                                case measure => simp [intOf]; omega
                            | false =>
                              have HE2 : Aside0 (escF (85 :: xs.drop (k + 2)) = none) := ⟨by rw [HE.out, HHV.out]; simp [hro]⟩
                              have hro' : 1114111 < v ∨ (55296 ≤ v ∧ v ≤ 57343) := by simp [runeOk] at hro; omega
                              clear hro
                              rcases hro' with h | ⟨h, h'⟩
                              all_goals
                                go_wp2
                                go_ret3
                                exact ⟨by rw [HQ3.out, HE2.out]; rfl, HB.out⟩
                      · have hd0 : digN c' = 0 := by simp [digN, hc, hc2, hc3]
                        have b1 : (c' == 120) = false := by simpa using hc
                        have b2 : (c' == 117) = false := by simpa using hc2
                        have b3 : (c' == 85) = false := by simpa using hc3
                        have hesc := escapeR_calls c' wr
                        cases he : escL c' with
                        | none =>
                          rw [he] at hesc
                          have HES := Aside0.mk hesc
                          have HE : Aside0 (escF (c' :: xs.drop (k + 2)) = none) := ⟨by simp [escF, he, hd0]⟩
                          clear hesc he hd0 hc hc2 hc3
                          go_wp2_with (go_at_call 76; refine HES.out.mono ?_; rintro e w3 ⟨rfl, hb3⟩)
                          go_ret3
                          exact ⟨by rw [HQ3.out, HE.out]; rfl, below_step HB.out hb3⟩
                        | some r =>
                          rw [he] at hesc
                          have hrr := escL_ok he hbc.1 hbc.2
                          have HES := Aside0.mk hesc
                          have HE : Aside0 (escF (c' :: xs.drop (k + 2)) = some (r, 1)) := ⟨by simp [escF, he]⟩
                          have hr0 := hrr.1
                          have hro := Aside0.mk hrr.2
                          have hr1 := (runeOk_out hrr.2).1
                          clear hesc he hd0 hc hc2 hc3 hrr
                          go_wp2_with (first
                            | (go_at_call 76; refine HES.out.mono ?_; rintro e w3 ⟨rfl, hb3⟩)
                            | (go_at_call 129; refine (utf8R_calls r _ hr0 hro.out).mono ?_; rintro e w5 ⟨v5, rfl, hR5, hb5⟩; obtain ⟨A5, c5, rfl, hl5, hC5⟩ := Kd.R_reads hR5; have HC5 := Aside0.mk hC5; have HR5 := Aside0.mk (Kd.R_below HR.out (below_step hb3 hb5)); have HB5 := Aside0.mk (below_step HB.out (below_step hb3 hb5)); clear hR5 hC5)
                            | (at_builtin; refine Kd.R_append_rows (w0 := w) (W := w5) (Kd.int .u8) (Rr := (Kd.int .u8).K w5) w.heap.size rfl (.tmp 75) (.tmp 77) 36 5 (.int .u8 0) 1 rfl Tryd.underlying36 info5 rfl (by decide) (by decide) u5 out (Lib.encodeRuneZ r) A5 _ c5 (fun _ => True) (fun _ => False) rfl rfl HR5.out HC5.out (fun _ _ h => h) (fun _ h => h.elim) (fun _ _ => trivial) HB5.out HB5.out.size (by have := enc_le r; omega) ?_; intro v4 w4 hR4 hB4 hg4 hat4))
                          go_roundw
                          case rel =>
                            have hq3 := HQ3.out
                            rw [HE.out] at hq3
                            exact ⟨k + 2, f, out ++ Lib.encodeRuneZ r, by go_num, by omega, by omega, ⟨hR4⟩, ⟨hB4⟩, ⟨by have := HL.out; have := enc_le r; rw [List.length_append]; omega⟩, ⟨by have := HF.out; omega⟩, ⟨by rw [hq3]; rfl⟩⟩
                          case measure => simp [intOf]; omega
                · have HE : Aside0 (escF (xs.drop (k + 1)) = none) := ⟨by rw [List.drop_of_length_le (by omega)]; rfl⟩
                  have HQ3 := Aside0.mk hq
                  clear hq
                  go_wp2
                  go_ret3
                  exact ⟨by rw [HQ3.out, HE.out]; rfl, HB.out⟩
              · rw [if_neg h3] at hq
                have b92 : (x != 92) = true := by simpa using h3
                have HQ2 := Aside0.mk hq
                have hol : out.length ≤ 4000000 := by have := HL.out; omega
                clear hq h3
                go_wp2_with (at_builtin; refine Kd.R_append (w0 := w) (W := wr) (Kd.int .u8) w.heap.size rfl (.tmp 43) (.tmp 45) 36 5 (.int .u8 0) 1 rfl Tryd.underlying36 info5 rfl (by decide) (by decide) u5 out x [.int .u8 x] (fun _ => True) (fun _ => False) rfl rfl rfl (fun _ h => h.elim) (fun _ _ => trivial) HR.out HB.out HB.out.size (by omega) ?_; intro v4 w4 hR4 hB4 hg4 hat4)
                go_roundw
                case rel => exact ⟨k + 1, f, out ++ [x], by go_num, by omega, by omega, ⟨hR4⟩, ⟨hB4⟩, ⟨by have := HL.out; simp; omega⟩, ⟨by have := HF.out; omega⟩, HQ2⟩
                case measure => simp [intOf]; omega
        · obtain rfl : k = m := by omega
          have H : Aside0 (takeD xs = none) := ⟨by
            rw [HQ.out, List.drop_of_length_le (by omega)]
            cases f <;> rfl⟩
          go_wp2
          go_ret3
          exact ⟨by rw [H.out]; rfl, HB.out⟩
    · have H : Aside0 (takeD xs = none) := ⟨by
        rw [hxs]
        unfold takeD
        split
        · rename_i h; simp at h; exact absurd h.1 h34
        · rfl⟩
      have hb34 : (x0 != 34) = true := by simpa using h34
      clear hx bx hxs hget0 hx0 h34
      go_enter Tryd.func100, Tryd.ntmps100
      go_wp2
      go_ret3
      exact ⟨by rw [H.out]; rfl, Below.refl _ _⟩
end Go.Proofs.YtllgfccckcgekaaDoor
