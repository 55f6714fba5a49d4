/- What path.Parse computes. Conditions: texts of at most 1000000 bytes. -/
import Derived.Test.YtllgfccckcgekaaDoorStps
namespace Go.Proofs.YtllgfccckcgekaaDoor
set_option maxRecDepth 100000
set_option maxHeartbeats 4000000
open Go.RowKit Go.Proofs.YtllgfccckcgekaaDoorW.PrintWords Go.Proofs.YtllgfccckcgekaaDoorW.PrintLast Go.Proofs.YtllgfccckcgekaaDoorW.PrintMore

theorem info27 : (Tryd.prog.info? 27).map (fun i => (i.zero, i.size, i.bytes)) = some (some (.agg #[.int .i64 0, .string ⟨#[]⟩, .int .i64 0]), 3, 32) := by kernel_rfl
theorem Wide1_calls (x : Stp) (w : World) : Calls Tryd.prog 74 #[stpV x] w fun e w' => e = .returned (.bool (wide x)) ∧ Below w.heap.size w w' := by
  unfold stpV
  have hw : decide ((128 : Int) < ((strOfNums x.name).size : Int)) = wide x := by
    unfold wide
    rw [size_str]
    simp
    omega
  have HW := Aside0.mk hw
  clear hw
  go_enter Tryd.func74, Tryd.ntmps74
  go_wp2
  go_ret
  exact ⟨by rw [← HW.out]; rfl, below_alloc (Below.refl _ _) _⟩
/-- The k-th step of a list that is read. -/
theorem stp_at {w : World} {A : Option Addr} {n : Nat} {g : List Stp} (h : kStp.C w A n g) (k : Nat) (hk : k < n) : ∃ ad x, A = some ad ∧ g[k]? = some x ∧ w.cell? (ad.add (k * 3)) = some (.int .i64 x.kind) ∧ w.cell? ⟨(ad.add (k * 3)).block, (ad.add (k * 3)).off + 1, none⟩ = some (.string (strOfNums x.name)) ∧ w.cell? ⟨(ad.add (k * 3)).block, (ad.add (k * 3)).off + 2, none⟩ = some (.int .i64 x.n) := by
  obtain ⟨h1, h2, h3⟩ := h
  obtain ⟨ad, e, hc⟩ := h3 (by omega)
  have hl : k < g.length := by omega
  obtain ⟨cs, hcl, hK, hcell⟩ := hc k _ (List.getElem?_eq_getElem hl)
  obtain rfl := kStp_K.1 hK
  have step : ∀ i, 0 < i → (⟨(ad.add (k * 3)).block, (ad.add (k * 3)).off + i, none⟩ : Addr) = ad.add (k * 3 + i) := by
    intro i hi
    have h2 : ¬ k * 3 + i = 0 := by omega
    by_cases h : k * 3 = 0
    · simp only [Addr.add, h, if_true, Nat.zero_add, if_neg (show ¬ i = 0 by omega)]
    · simp only [Addr.add, if_neg h, if_neg h2, Nat.add_assoc]
  exact ⟨ad, g[k], e, List.getElem?_eq_getElem hl, hcell 0 _ rfl, by rw [step _ (by omega)]; exact hcell 1 _ rfl, by rw [step _ (by omega)]; exact hcell 2 _ rfl⟩
theorem IndexS_calls (A : Option Addr) (n c : Nat) (g : List Stp) (w : World) (hg : kStp.C w A n g) :
    Calls Tryd.prog 112 #[.slice A n c, .func (.func 74) #[] #[]] w fun e w' => (∃ j : Int, e = .returned (.int .i64 j) ∧ decide (0 ≤ j) = g.any wide) ∧ Below w.heap.size w w' := by
  have HG := Aside0.mk hg
  have hl1 := hg.1
  have hl2 := hg.2.1
  clear hg
  go_enter Tryd.func112, Tryd.ntmps112
  go_wp2_with fail
  go_loopw [8] (fun i wr => ∃ k : Nat, k ≤ n ∧ i = .int .i64 k ∧ Aside0 (Below w.heap.size w wr) ∧ Aside0 ((g.take k).any wide = false)) (fun i _ => n - (intOf i).toNat)
  case atStart => exact ⟨0, by omega, rfl, ⟨Below.refl _ _⟩, ⟨rfl⟩⟩
  case round =>
    obtain ⟨k, hk, rfl, HB, HA⟩ := hrel
    by_cases hl : k < n
    · obtain ⟨ad, x, rfl, hx, e0, e1, e2⟩ := stp_at (Kd.C_below HG.out HB.out) k hl
      have HX := Aside0.mk hx
      have hcall := Wide1_calls x wr
      unfold stpV at hcall
      clear hx
      cases hrf : wide x with
      | false =>
        rw [hrf] at hcall
        have HF := Aside0.mk hrf
        have HCALL := Aside0.mk hcall
        clear hcall hrf
        go_wp2_with fail
        refine HCALL.out.mono ?_
        rintro e w2 ⟨rfl, hb2⟩
        go_wp2_with fail
        go_roundw
        case rel => exact ⟨k + 1, by omega, by go_num, ⟨HB.out.trans (hb2.mono HB.out.size)⟩, ⟨by rw [List.take_add_one, HX.out]; simp [HF.out, HA.out]⟩⟩
        case measure => simp [intOf]; omega
      | true =>
        rw [hrf] at hcall
        have HF := Aside0.mk hrf
        have HCALL := Aside0.mk hcall
        clear hcall hrf
        go_wp2_with fail
        refine HCALL.out.mono ?_
        rintro e w2 ⟨rfl, hb2⟩
        go_wp2
        go_ret
        refine ⟨⟨k, rfl, ?_⟩, HB.out.trans (hb2.mono HB.out.size)⟩
        have : g.any wide = true := by
          rw [List.any_eq_true]
          exact ⟨x, List.mem_of_getElem? HX.out, HF.out⟩
        rw [this]
        simp
    · obtain rfl : k = n := by omega
      go_wp2
      go_ret
      refine ⟨⟨-1, rfl, ?_⟩, HB.out⟩
      have := HA.out
      rw [List.take_of_length_le (by omega)] at this
      rw [this]
      rfl
theorem ContainsS_calls (A : Option Addr) (n c : Nat) (g : List Stp) (w : World) (hg : kStp.C w A n g) :
    Calls Tryd.prog 73 #[.slice A n c, .func (.func 74) #[] #[]] w fun e w' => e = .returned (.bool (g.any wide)) ∧ Below w.heap.size w w' := by
  have h := Aside0.mk (IndexS_calls A n c g w hg)
  clear hg
  go_enter Tryd.func73, Tryd.ntmps73
  go_wp2_with (go_at_call 112; refine h.out.mono ?_; rintro e w2 ⟨⟨j, rfl, hj⟩, hb2⟩; have HJ := Aside0.mk hj; clear hj)
  go_ret
  refine ⟨?_, hb2⟩
  rw [← HJ.out]
  rfl
theorem byt_drop {xs : List Int} (h : Byt xs) (k : Nat) : Byt (xs.drop k) := fun y hy => h y (List.mem_of_mem_drop hy)
theorem numberF_drop {xs r : List Int} {v : Int} (h : numberF xs = some (v, r)) : r = xs.drop (xs.takeWhile digitF).length := by
  unfold numberF at h
  simp only at h
  split at h
  · cases h
  · simp only [Option.some.injEq, Prod.mk.injEq] at h; exact h.2.symm
theorem nameP_drop {xs r v : List Int} (h : nameP xs = some (v, r)) : r = xs.drop (xs.takeWhile letterF).length := by
  unfold nameP at h
  simp only at h
  split at h
  · simp only [Option.some.injEq, Prod.mk.injEq] at h; exact h.2.symm
  · cases h
theorem stepF_byt {xs r : List Int} {x : Stp} (h : stepF xs = some (x, r)) (hb : Byt xs) : Byt r := by
  unfold stepF at h
  split at h
  · rename_i t
    have bt : Byt t := fun y hy => hb y (by simp [hy])
    split at h
    · rename_i v r' hn
      simp only [Option.some.injEq, Prod.mk.injEq] at h
      have := numberF_drop hn
      rw [← h.2]
      intro y hy
      exact byt_drop bt _ y (by rw [← this]; simp [hy])
    · cases h
  · rename_i c t
    have bt : Byt t := fun y hy => hb y (by simp [hy])
    have bct : Byt (c :: t) := fun y hy => hb y (by simp only [List.mem_cons] at hy ⊢; exact .inr hy)
    split at h
    · simp only [Option.some.injEq, Prod.mk.injEq] at h; rw [← h.2]; exact bt
    · split at h
      · simp only [Option.some.injEq, Prod.mk.injEq] at h; rw [← h.2]; exact bt
      · split at h
        · cases ht : takeD (c :: t) with
          | none => rw [ht] at h; simp at h
          | some q => rw [ht] at h; simp only [Option.map_some, Option.some.injEq, Prod.mk.injEq] at h; rw [← h.2]; exact byt_drop bct _
        · cases ht : nameP (c :: t) with
          | none => rw [ht] at h; simp at h
          | some q =>
            rw [ht] at h
            simp only [Option.map_some, Option.some.injEq, Prod.mk.injEq] at h
            rw [← h.2, nameP_drop (v := q.1) (r := q.2) ht]
            exact byt_drop bct _
  · cases h
theorem firstF_byt {xs r : List Int} {o : List Stp} (h : firstF xs = some (o, r)) (hb : Byt xs) : Byt r ∧ r.length ≤ xs.length ∧ o.length ≤ 1 := by
  unfold firstF at h
  split at h
  · rename_i t
    simp only [Option.some.injEq, Prod.mk.injEq] at h
    rw [← h.1, ← h.2]
    exact ⟨fun y hy => hb y (by simp [hy]), by simp; omega, by simp⟩
  · rename_i t _
    cases hn : numberF t with
    | none => rw [hn] at h; simp at h
    | some q =>
      rw [hn] at h
      simp only [Option.map_some, Option.some.injEq, Prod.mk.injEq] at h
      rw [← h.1, ← h.2, numberF_drop (v := q.1) (r := q.2) hn]
      exact ⟨byt_drop (fun y hy => hb y (by simp [hy])) _, by rw [List.length_drop]; simp; omega, by simp⟩
  · simp only [Option.some.injEq, Prod.mk.injEq] at h
    rw [← h.1, ← h.2]
    exact ⟨hb, Nat.le_refl _, by simp⟩
def totalF (xs : List Int) : Option (List Stp) := match firstF xs with
  | none => none
  | some (o, r) => (stepsF r.length r).map (o ++ ·)
theorem parseF_total (xs : List Int) : parseF xs = match totalF xs with
  | none => ([], 6)
  | some l => if 32 < l.length ∨ l.any wide then ([], 10) else (l, 0) := by
  unfold parseF totalF
  cases firstF xs with
  | none => rfl
  | some p =>
    obtain ⟨o, r⟩ := p
    dsimp only
    cases stepsF r.length r <;> rfl
theorem total_step {out : List Stp} {c : Int} {t r : List Int} {x : Stp} (h : stepF (c :: t) = some (x, r)) : (stepsF (c :: t).length (c :: t)).map (out ++ ·) = (stepsF r.length r).map ((out ++ [x]) ++ ·) := by
  have hl := stepF_less h
  simp only [List.length_cons] at hl ⊢
  simp only [stepsF, h]
  rw [stepsF_fuel t.length r.length r (by omega) (Nat.le_refl _), Option.map_map]
  congr 1
  funext l
  simp
def ParsePost (xs : List Int) (w : World) (e : Ending) (w' : World) : Prop := ∃ v, e = .returned (.tuple #[v, .int .i64 (parseF xs).2]) ∧ kStp.R 27 w' w.heap.size (fun _ => True) v (parseF xs).1
def sizeOfStr : Value → Nat
  | .string b => b.size
  | _ => 0
def parseMeas (v5 v6 : Value) : Nat := match v6 with
  | .bool true => 1 + sizeOfStr v5
  | _ => 0
theorem Parse_calls (s : ByteArray) (w : World) (hs : s.size ≤ 1000000) : Calls Tryd.prog 37 #[.string s] w fun e w' => ParsePost (bytesOf s) w e w' ∧ Below w.heap.size w w' := by
  have hby := bytesOf_byt s
  have hln := bytesOf_length s
  have HBY := Aside0.mk hby
  have HLN := Aside0.mk hln
  have HPT := Aside0.mk (parseF_total (bytesOf s))
  have HF := Aside0.mk (first_calls s w hs)
  clear hby hln
  go_enter Tryd.func37, Tryd.ntmps37
  go_wp2_with fail
  refine HF.out.mono ?_
  rintro e w1 ⟨hp, hb1⟩
  unfold FirstPost at hp
  have HT : ∃ (v4 l5 : Value) (b : Bool), e = .returned (.tuple #[v4, l5, .bool b]) ∧ (b = true → ∃ (out : List Stp) (L : ByteArray), l5 = .string L ∧ kStp.R 27 w1 w.heap.size (fun _ => True) v4 out ∧ (out.length + L.size ≤ 1000001 ∧ L.size ≤ 1000000) ∧ totalF (bytesOf s) = (stepsF (bytesOf L).length (bytesOf L)).map (out ++ ·)) ∧ (b = false → totalF (bytesOf s) = none) := by
    cases hf : firstF (bytesOf s) with
    | none =>
      rw [hf] at hp
      obtain ⟨v, l, rfl⟩ := hp
      exact ⟨v, l, false, rfl, by simp, fun _ => by unfold totalF; rw [hf]⟩
    | some p =>
      obtain ⟨o, r⟩ := p
      rw [hf] at hp
      obtain ⟨v, rfl, hR⟩ := hp
      obtain ⟨h1, h2, h3⟩ := firstF_byt hf HBY.out
      refine ⟨v, _, true, rfl, fun _ => ⟨o, _, rfl, hR, by rw [size_str]; have := HLN.out; omega, ?_⟩, by simp⟩
      unfold totalF
      rw [hf, bz_str h1]
  obtain ⟨v4, l5, b, rfl, ht, hf⟩ := HT
  have HTT := Aside0.mk ht
  have HTF := Aside0.mk hf
  have HB1 := Aside0.mk hb1
  clear hp ht hf hb1
  go_wp2_with fail
  go_loopw [4, 5, 6, 7] (fun v4 v5 v6 _ wr => Aside0 (Below w.heap.size w wr) ∧ ((v6 = .bool true ∧ ∃ (out : List Stp) (L : ByteArray), v5 = .string L ∧ Aside0 (kStp.R 27 wr w.heap.size (fun _ => True) v4 out) ∧ Aside0 (out.length + L.size ≤ 1000001 ∧ L.size ≤ 1000000) ∧ Aside0 (totalF (bytesOf s) = (stepsF (bytesOf L).length (bytesOf L)).map (out ++ ·))) ∨ (v6 = .bool false ∧ Aside0 (totalF (bytesOf s) = none)))) (fun _ v5 v6 _ _ => parseMeas v5 v6)
  case atStart =>
    refine ⟨HB1, ?_⟩
    cases b with
    | true =>
      obtain ⟨out, L, rfl, h1, h2, h3⟩ := HTT.out rfl
      exact .inl ⟨rfl, out, L, rfl, ⟨h1⟩, ⟨h2⟩, ⟨h3⟩⟩
    | false => exact .inr ⟨rfl, ⟨HTF.out rfl⟩⟩
  case round =>
    clear HTT HTF HB1
    obtain ⟨HB, hrel⟩ := hrel
    rcases hrel with ⟨rfl, out, L, rfl, HR, HL, HQ⟩ | ⟨rfl, HQ⟩
    · have hLb := bytesOf_length L
      cases hL : bytesOf L with
      | nil =>
        have hLe : L.toList.isEmpty = true := by rw [isEmpty_toList, hL]; rfl
        have hto : totalF (bytesOf s) = some out := by rw [HQ.out, hL]; simp [stepsF]
        have hpf := HPT.out
        rw [hto] at hpf
        obtain ⟨A, c, rfl, hle, hC⟩ := Kd.R_reads HR.out
        have HPF := Aside0.mk hpf
        have hcon := ContainsS_calls A out.length c out wr hC
        clear hL hLb hto hpf hC
        by_cases h32 : 32 < out.length
        · clear hcon
          go_wp2
          go_ret2
          have h2 := HPF.out
          simp only [if_pos (show 32 < out.length ∨ out.any wide = true from .inl h32)] at h2
          exact ⟨⟨_, by rw [h2]; rfl, by rw [h2]; exact Kd.R_nil _ _ _ _ _⟩, HB.out⟩
        · cases hw : out.any wide with
          | true =>
            rw [hw] at hcon
            have HC := Aside0.mk hcon
            have h2 := HPF.out
            simp only [if_pos (show 32 < out.length ∨ out.any wide = true from .inr hw)] at h2
            have H2 := Aside0.mk h2
            clear hcon hw h2
            go_wp2_with (go_at_call 73; refine HC.out.mono ?_; rintro e w2 ⟨rfl, hb2⟩)
            go_ret2
            exact ⟨⟨_, by rw [H2.out]; rfl, by rw [H2.out]; exact Kd.R_nil _ _ _ _ _⟩, below_step HB.out hb2⟩
          | false =>
            rw [hw] at hcon
            have HC := Aside0.mk hcon
            have h2 := HPF.out
            simp only [if_neg (show ¬ (32 < out.length ∨ out.any wide = true) by rw [hw]; simp; omega)] at h2
            have H2 := Aside0.mk h2
            clear hcon hw h2
            go_wp2_with (go_at_call 73; refine HC.out.mono ?_; rintro e w2 ⟨rfl, hb2⟩)
            go_ret2
            exact ⟨⟨_, by rw [H2.out]; rfl, by rw [H2.out]; exact Kd.R_below HR.out hb2⟩, below_step HB.out hb2⟩
      | cons c t =>
        have hLe : L.toList.isEmpty = false := by rw [isEmpty_toList, hL]; rfl
        have hl2 := HL.out
        have hLs : L.size ≤ 1000000 := by omega
        have hst := step_calls L (wr.alloc (.cells #[.int .i64 0, .string ⟨#[]⟩, .int .i64 0] 27)) hLs
        rw [hL] at hst
        have HST := Aside0.mk hst
        have HLB := Aside0.mk hL
        have hol : out.length ≤ 1000001 := by omega
        have hpos : 0 < L.size := by rw [← hLb, hL]; simp
        clear hst hL hLb hl2
        go_wp2_with fail
        refine HST.out.mono ?_
        rintro e w2 ⟨hp, hb2⟩
        have hx : ∃ (p : Stp) (L' : ByteArray) (b : Bool), e = .returned (.tuple #[.agg #[.int .i64 p.kind, .string (strOfNums p.name), .int .i64 p.n], .string L', .bool b]) ∧ Aside0 (b = true → L'.size < L.size ∧ totalF (bytesOf s) = (stepsF (bytesOf L').length (bytesOf L')).map ((out ++ [p]) ++ ·)) ∧ Aside0 (b = false → totalF (bytesOf s) = none) := by
          unfold StepPost at hp
          cases hs : stepF (c :: t) with
          | none =>
            rw [hs] at hp
            obtain ⟨k, nm, n, l, rfl⟩ := hp
            refine ⟨⟨k, bytesOf nm, n⟩, l, false, by rw [strOfNums_bytesOf], ⟨by simp⟩, ⟨fun _ => ?_⟩⟩
            rw [HQ.out, HLB.out]
            simp [stepsF, hs]
          | some xr =>
            obtain ⟨x, r⟩ := xr
            rw [hs] at hp
            subst hp
            have hbr := stepF_byt hs (by rw [← HLB.out]; exact bytesOf_byt L)
            refine ⟨x, strOfNums r, true, rfl, ⟨fun _ => ⟨?_, ?_⟩⟩, ⟨by simp⟩⟩
            · have := stepF_less hs
              rw [size_str, ← bytesOf_length L, HLB.out]
              exact this
            · rw [HQ.out, HLB.out, total_step hs, bz_str hbr]
        obtain ⟨p, L', b, rfl, HY, HNO⟩ := hx
        clear hp
        have hq1 := (hb2.block wr.heap.size (by simp)).trans (blk_new wr _)
        obtain ⟨⟨k0, k1, k2⟩, f0, f1, f2⟩ := cells27 hq1
        have HQ1 := Aside0.mk hq1
        have HB1 := Aside0.mk (below_step (below_alloc (Below.refl wr.heap.size wr) _) hb2)
        clear hq1 hb2
        obtain ⟨W, hW⟩ : ∃ W, W = ((w2.setCell ⟨wr.heap.size, 0, none⟩ (.int .i64 p.kind)).setCell ⟨wr.heap.size, 1, none⟩ (.string (strOfNums p.name))).setCell ⟨wr.heap.size, 2, none⟩ (.int .i64 p.n) := ⟨_, rfl⟩
        have hWs : W.heap.size = w2.heap.size := by rw [hW]; simp
        have hBW : Below wr.heap.size wr W := by rw [hW]; exact below27 HB1.out (Nat.le_refl _)
        have HW := Aside0.mk hW
        have HWS := Aside0.mk hWs
        have HBW := Aside0.mk hBW
        clear hW hWs hBW
        go_wp2_with (at_builtin; rw [← HW.out]; refine Kd.R_append (w0 := w) (W := W) kStp w.heap.size rfl (.tmp 25) (.tmp 27) 22 27 (.agg #[.int .i64 0, .string ⟨#[]⟩, .int .i64 0]) 32 rfl Tryd.underlying22 info27 rfl (by decide) (by decide) u4 out p p.cells (fun _ => True) (fun _ => False) rfl (by rw [HWS.out]; rfl) (kStp_M.2 rfl) (fun _ h => h.elim) (fun _ _ => trivial) (Kd.R_below HR.out HBW.out) (below_step HB.out HBW.out) (below_step HB.out HBW.out).size (by omega) ?_; intro v4' w4 hR4 hB4 hg4 hat4)
        go_roundw
        case rel =>
          refine ⟨⟨hB4⟩, ?_⟩
          cases b with
          | true =>
            obtain ⟨h1, h2⟩ := HY.out rfl
            have h3 := HL.out
            exact .inl ⟨rfl, out ++ [p], L', rfl, ⟨hR4⟩, ⟨by simp; omega⟩, ⟨h2⟩⟩
          | false => exact .inr ⟨rfl, ⟨HNO.out rfl⟩⟩
        case measure =>
          cases b with
          | true => have := (HY.out rfl).1; simp only [parseMeas, sizeOfStr]; omega
          | false => simp only [parseMeas]; omega
    · have hpf := HPT.out
      rw [HQ.out] at hpf
      have HPF := Aside0.mk hpf
      clear hpf
      go_wp2
      go_ret2
      exact ⟨⟨_, by rw [HPF.out]; rfl, by rw [HPF.out]; exact Kd.R_nil _ _ _ _ _⟩, HB.out⟩
end Go.Proofs.YtllgfccckcgekaaDoor
