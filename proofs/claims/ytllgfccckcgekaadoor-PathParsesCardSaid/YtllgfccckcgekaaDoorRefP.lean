/- What scholiumref18.ParsePath computes. Conditions: texts of at most 1000000 bytes. -/
import Derived.Test.YtllgfccckcgekaaDoorRefT
import Derived.Test.YtllgfccckcgekaaDoorRefN
import Derived.Test.YtllgfccckcgekaaDoorParse
import Derived.Deep.RegionLaw
import Derived.Deep.DeepCutAuto
namespace Go.Proofs.YtllgfccckcgekaaDoor
set_option maxRecDepth 100000
set_option maxHeartbeats 8000000
open Go.RowKit Go.Proofs.YtllgfccckcgekaaDoorW.PrintWords Go.Proofs.YtllgfccckcgekaaDoorW.PrintLast Go.Proofs.YtllgfccckcgekaaDoorW.PrintMore

theorem info26 : (Tryd.prog.info? 26).map (fun i => (i.zero, i.size, i.bytes)) = some (some (.agg #[.int .i64 0, .string ⟨#[]⟩, .int .i64 0]), 3, 32) := by kernel_rfl
def ParseRPost (xs : List Int) (w : World) (e : Ending) (w' : World) : Prop := ∃ v, e = .returned (.tuple #[v, .int .i64 (parseF xs).2]) ∧ kStp.R 26 w' w.heap.size (fun _ => True) v (parseF xs).1
theorem numR_none {t : List Int} (h : numberF t = none) : numR t = (0, 0) := by unfold numR; rw [h]
theorem numR_some {t r : List Int} {v : Int} (h : numberF t = some (v, r)) : ∃ W : Nat, numR t = (v, (W : Int)) ∧ 1 ≤ W ∧ W ≤ t.length ∧ r = t.drop W ∧ W ≤ 6 := by
  have hw := takeWhile_le (p := digitF) t
  refine ⟨(t.takeWhile digitF).length, by unfold numR; rw [h], ?_, hw, numberF_drop h, ?_⟩
  all_goals
    unfold numberF at h
    simp only at h
    split at h
    · cases h
    · omega
theorem kStp_one26 (w : World) (x : Stp) (base : Nat) (hb : base ≤ w.heap.size) : kStp.R 26 (w.alloc (.cells #[.int .i64 x.kind, .string (strOfNums x.name), .int .i64 x.n] 26)) base (fun _ => True) (.slice (some ⟨w.heap.size, 0, none⟩) 1 1) [x] := by
  refine ⟨fun _ _ => trivial, x.cells, ?_, ?_⟩
  · exact World.ownsRow_lit (base := base) (e := 26) (size := 3) w x.cells.toArray 1 hb (by decide) (by simp [Stp.cells])
  · refine ⟨rfl, fun j p hj => ?_⟩
    cases j with
    | zero => simp at hj; subst hj; exact kStp_M.2 rfl
    | succ j => simp at hj
theorem app26 {ops : Array Oper} {o : Oper} {a : Act} {Q : Exit → Act → World → Prop} {Kc : Act → World → Prop} {w W : World} (s x : Operand) (hw : Region.wanted o (yielded ops a.tmps) = true)
    (ho : o.op = .call { callee := .builtin .append, args := #[s, x], argTypes := #[24, 24] }) (v : Value) (xs : List Stp) (p : Stp) (hs : a.eval s = v) (hx : a.eval x = .slice (some ⟨W.heap.size, 0, none⟩) 1 1)
    (HO : kStp.R 26 W w.heap.size (fun _ => True) v xs) (HB : Below w.heap.size w W) (hl : xs.length ≤ 1000001)
    (h : ∀ v1 w1, kStp.R 26 w1 w.heap.size (fun _ => True) v1 (xs ++ [p]) → Below w.heap.size w w1 → Kc (a.put o.dst v1) w1) :
    if Region.wanted o (yielded ops a.tmps) = true then Oper.wp Tryd.prog o a ((W.alloc (.cells #[.int .i64 p.kind, .string (strOfNums p.name), .int .i64 p.n] 26)).drew) Kc Q else Kc (a.put o.dst undef) ((W.alloc (.cells #[.int .i64 p.kind, .string (strOfNums p.name), .int .i64 p.n] 26)).drew) := by
  refine Kd.R_append_step (w0 := w) (W := W.drew) kStp w.heap.size hw s x 24 26 (.agg #[.int .i64 0, .string ⟨#[]⟩, .int .i64 0]) 32 ho Tryd.underlying24 info26 rfl (by decide) (by decide) v xs p p.cells (fun _ => True) (fun _ => False) hs hx (kStp_M.2 rfl) (fun _ h => h.elim) (fun _ _ => trivial) (Kd.R_below HO (Below.refl _ _).drew) HB.drew HB.drew.size (by omega) ?_
  intro v1 w1 h1 h2 _ _
  exact h v1 w1 h1 h2
theorem first_num {t r : List Int} {v : Int} (h : numberF t = some (v, r)) : firstF (64 :: t) = some ([⟨1, [], v⟩], r) := by
  cases t with
  | nil => simp [numberF] at h
  | cons a u =>
    have ha : a ≠ 42 := by
      rintro rfl
      have e : ((42 : Int) :: u).takeWhile digitF = [] := by rw [List.takeWhile_cons]; rfl
      unfold numberF at h
      rw [e] at h
      simp at h
    unfold firstF
    split
    · rename_i h2; simp at h2; exact absurd h2.1 ha
    · rename_i h2; simp at h2; subst h2; rw [h]; rfl
    · rename_i h1 h2; exact absurd rfl (h2 _)
theorem first_no {t : List Int} (h : numberF t = none) (h42 : ∀ u, t ≠ 42 :: u) : firstF (64 :: t) = none := by
  unfold firstF
  split
  · rename_i h2; simp at h2; exact absurd h2 (h42 _)
  · rename_i h2; simp at h2; subst h2; rw [h]; rfl
  · rename_i h1 h2; exact absurd rfl (h2 _)
def LoopR (s : ByteArray) (w wr : World) (v0 v4 : Value) : Prop := ∃ (out : List Stp) (L : ByteArray), v0 = .string L ∧ Aside0 (kStp.R 26 wr w.heap.size (fun _ => True) v4 out) ∧ Aside0 (Below w.heap.size w wr) ∧ Aside0 (out.length + L.size ≤ 1000001 ∧ L.size ≤ 1000000) ∧ Aside0 (totalF (bytesOf s) = (stepsF (bytesOf L).length (bytesOf L)).map (out ++ ·))
theorem next {s L : ByteArray} {w w1 : World} {out : List Stp} {c : Int} {t r : List Int} {x : Stp} {v1 : Value} (hQ : totalF (bytesOf s) = (stepsF (bytesOf L).length (bytesOf L)).map (out ++ ·)) (hL : bytesOf L = c :: t) (hs : stepF (c :: t) = some (x, r))
    (hl : out.length + L.size ≤ 1000001 ∧ L.size ≤ 1000000) (hR : kStp.R 26 w1 w.heap.size (fun _ => True) v1 (out ++ [x])) (hB : Below w.heap.size w w1) : LoopR s w w1 (.string (strOfNums r)) v1 ∧ (strOfNums r).size < L.size := by
  have h1 := stepF_less hs
  have h2 := bytesOf_length L
  rw [hL] at h2
  have hlt : (strOfNums r).size < L.size := by rw [size_str]; omega
  have hbr := stepF_byt hs (by rw [← hL]; exact bytesOf_byt L)
  refine ⟨⟨_, _, rfl, ⟨hR⟩, ⟨hB⟩, ⟨?_, ?_⟩, ⟨?_⟩⟩, hlt⟩
  · simp; omega
  · omega
  · rw [hQ, hL, total_step hs, bz_str hbr]
theorem errs {s L : ByteArray} {out : List Stp} {c : Int} {t : List Int} (hQ : totalF (bytesOf s) = (stepsF (bytesOf L).length (bytesOf L)).map (out ++ ·)) (hL : bytesOf L = c :: t) (hs : stepF (c :: t) = none) : parseF (bytesOf s) = ([], 6) := by
  rw [parseF_total, hQ, hL]
  simp [stepsF, hs]
theorem err_post {xs : List Int} {w w' : World} {e : Ending} (h : parseF xs = ([], 6)) (he : e = .returned (.tuple #[.slice none 0 0, .int .i64 6])) : ParseRPost xs w e w' := ⟨_, by rw [he, h], by rw [h]; exact Kd.R_nil _ _ _ _ _⟩
theorem ParsePath_calls (s : ByteArray) (w : World) (hs : s.size ≤ 1000000) : Calls Tryd.prog 61 #[.string s] w fun e w' => ParseRPost (bytesOf s) w e w' ∧ Below w.heap.size w w' := by
  have hby := bytesOf_byt s
  have hln := bytesOf_length s
  have HBY := Aside0.mk hby
  have HLN := Aside0.mk hln
  have HPT := Aside0.mk (parseF_total (bytesOf s))
  clear hby hln
  go_enter Tryd.func61, Tryd.ntmps61
  obtain ⟨b, hb⟩ : ∃ b : Bool, ((bytesOf s).head? == some 64) = b := ⟨_, rfl⟩
  have HH := Aside0.mk hb
  clear hb
  go_upto_region 2 with (fail)
  go_cut [20] (fun v20 wc => v20 = .bool b ∧ w = wc)
  case first =>
    by_cases h0 : 0 < s.size
    · have hh : (bytesOf s).head? = some (s[0].toNat : Int) := by rw [List.head?_eq_getElem?]; exact str_at s 0 h0
      have hLe : s.toList.isEmpty = false := by
        rw [isEmpty_toList]; cases hx : bytesOf s with
        | nil => rw [hx] at hh; cases hh
        | cons x t => rfl
      have hb := HH.out
      rw [hh] at hb
      have hb' : ((s[0].toNat : Int) == 64) = b := by rw [← hb]; rfl
      clear hb hh
      go_wp2
      go_meet
      case rel => exact ⟨rfl, rfl⟩
    · have hx : bytesOf s = [] := List.eq_nil_of_length_eq_zero (by rw [HLN.out]; omega)
      have hLe : s.toList.isEmpty = true := by rw [isEmpty_toList, hx]; rfl
      have hb : b = false := by rw [← HH.out, hx]; rfl
      subst hb
      clear hx
      go_wp2
      go_meet
      case rel => exact ⟨rfl, rfl⟩
  case rest =>
    obtain ⟨rfl, rfl⟩ := hcut
    go_upto_if 20 with (fail)
    go_cut [0, 4] (fun v0 v4 wc' => LoopR s w wc' v0 v4)
    case first =>
      cases b with
      | false =>
        have hf : firstF (bytesOf s) = some ([], bytesOf s) := by
          have h := HH.out
          unfold firstF
          split
          · rename_i h2; rw [h2] at h; simp at h
          · rename_i h2; rw [h2] at h; simp at h
          · rfl
        have ht : totalF (bytesOf s) = (stepsF (bytesOf s).length (bytesOf s)).map ([] ++ ·) := by
          unfold totalF; rw [hf]
        have HT := Aside0.mk ht
        clear hf ht
        go_wp2
        go_meet
        case rel => exact ⟨[], s, rfl, ⟨Kd.R_nil _ _ _ _ _⟩, ⟨Below.refl _ _⟩, ⟨by simp; omega⟩, HT⟩
      | true =>
        obtain ⟨t, hx⟩ : ∃ t, bytesOf s = 64 :: t := by
          have h := HH.out
          cases hx : bytesOf s with
          | nil => rw [hx] at h; simp at h
          | cons x t => rw [hx] at h; simp at h; exact ⟨t, by rw [h]⟩
        have hby := HBY.out
        have hln := HLN.out
        rw [hx] at hby hln
        have bt : Byt t := fun y hy => hby y (by simp [hy])
        simp only [List.length_cons] at hln
        have hcut := cut_from_str s 1
        rw [hx, List.drop_succ_cons, List.drop_zero] at hcut
        obtain ⟨L, hL⟩ : ∃ L, L = strOfNums t := ⟨_, rfl⟩
        rw [← hL] at hcut
        have hLb : bytesOf L = t := by rw [hL]; exact bz_str bt
        have hLs : L.size + 1 = s.size := by rw [hL, size_str]; omega
        have hs1 : 1 ≤ s.size := by omega
        have hLs2 : L.size ≤ 1000001 := by omega
        have hnum := fun w => numberR_calls L w hLs2
        rw [hLb] at hnum
        have HX := Aside0.mk hx
        have HLB := Aside0.mk hLb
        clear hx hby hln hL hLb
        cases hn : numberF t with
        | some vr =>
          obtain ⟨v, r⟩ := vr
          obtain ⟨W, h1, h2, h3, h4, h5⟩ := numR_some hn
          rw [h1] at hnum
          have HN := Aside0.mk hnum
          have hWL : W ≤ L.size := by rw [← bytesOf_length L, HLB.out]; exact h3
          have hcut2 := cut_from_str L W
          rw [HLB.out, ← h4] at hcut2
          have HR := Aside0.mk h4
          clear hnum h1 h3 h4
          go_wp2_with (go_at_call 99; refine (HN.out _).mono ?_; rintro e w' ⟨rfl, rfl⟩)
          go_region_law (refine app26 (w := w) (W := w) (.tmp 30) (.tmp 33) (by rfl) rfl (.slice none 0 0) [] ⟨1, [], v⟩ rfl rfl (Kd.R_nil _ _ _ _ _) (Below.refl _ _) (by simp) ?_; intro v1 w1 hR1 hB1)
          go_wp2
          go_meet
          case rel =>
            refine ⟨_, _, rfl, ⟨hR1⟩, ⟨hB1⟩, ⟨?_, ?_⟩, ⟨?_⟩⟩
            · rw [HR.out, size_str, List.length_drop]; have h1 := bytesOf_length L; rw [HLB.out] at h1; simp; omega
            · rw [HR.out, size_str, List.length_drop]; have h1 := bytesOf_length L; rw [HLB.out] at h1; omega
            · have bL := bytesOf_byt L
              rw [HLB.out] at bL
              rw [bz_str (by rw [HR.out]; exact byt_drop bL W)]
              unfold totalF
              rw [HX.out, first_num hn]
              rfl
        | none =>
          rw [numR_none hn] at hnum
          have HN := Aside0.mk hnum
          clear hnum
          by_cases h42 : ∃ u, t = 42 :: u
          · obtain ⟨u, rfl⟩ := h42
            have hc0 : ∃ h : 0 < L.size, (L[0].toNat : Int) = 42 := by
              have h1 : 0 < L.size := by rw [← bytesOf_length L, HLB.out]; simp
              refine ⟨h1, ?_⟩
              have := str_at L 0 h1
              rw [HLB.out] at this
              simpa using this.symm
            obtain ⟨hL0, hc0⟩ := hc0
            have hL1 : (1 : Int) ≤ (L.size : Int) := by omega
            have hLe : L.toList.isEmpty = false := by rw [isEmpty_toList, HLB.out]; rfl
            have hcut2 := cut_from_str L 1
            rw [HLB.out, List.drop_succ_cons, List.drop_zero] at hcut2
            clear hn
            go_wp2_with (go_at_call 99; refine (HN.out _).mono ?_; rintro e w' ⟨rfl, rfl⟩)
            go_region_law (refine app26 (w := w) (W := w) (.tmp 45) (.tmp 47) (by rfl) rfl (.slice none 0 0) [] ⟨1, [], -1⟩ rfl rfl (Kd.R_nil _ _ _ _ _) (Below.refl _ _) (by simp) ?_; intro v1 w1 hR1 hB1)
            go_wp2
            go_meet
            case rel =>
              have h1 := bytesOf_length L
              rw [HLB.out] at h1
              simp only [List.length_cons] at h1
              refine ⟨_, _, rfl, ⟨hR1⟩, ⟨hB1⟩, ⟨?_, ?_⟩, ⟨?_⟩⟩
              · rw [size_str]; simp; omega
              · rw [size_str]; omega
              · rw [bz_str (fun y hy => bt y (by simp [hy]))]
                unfold totalF
                rw [HX.out]
                rfl
          · have hto : totalF (bytesOf s) = none := by unfold totalF; rw [HX.out, first_no hn (fun u h => h42 ⟨u, h⟩)]
            have hpf := HPT.out
            rw [hto] at hpf
            have HPF := Aside0.mk hpf
            clear hpf hto hn
            by_cases hL0 : 0 < L.size
            · have hc0 : (L[0].toNat : Int) ≠ 42 := by
                intro h
                have := str_at L 0 hL0
                rw [HLB.out, h] at this
                cases ht : t with
                | nil => rw [ht] at this; simp at this
                | cons a u => rw [ht] at this; simp at this; exact h42 ⟨u, by rw [ht, this]⟩
              have hc1 : ((L[0].toNat : Int) == 42) = false := by simpa using hc0
              have hLe : L.toList.isEmpty = false := by
                rw [isEmpty_toList]
                cases hx : bytesOf L with
                | nil => have := bytesOf_length L; rw [hx] at this; simp at this; omega
                | cons a u => rfl
              clear h42 hc0
              go_wp2_with (go_at_call 99; refine (HN.out _).mono ?_; rintro e w' ⟨rfl, rfl⟩)
              go_ret2
              exact ⟨⟨_, by rw [HPF.out]; rfl, by rw [HPF.out]; exact Kd.R_nil _ _ _ _ _⟩, Below.refl _ _⟩
            · have hx : bytesOf L = [] := List.eq_nil_of_length_eq_zero (by rw [bytesOf_length]; omega)
              have hLe : L.toList.isEmpty = true := by rw [isEmpty_toList, hx]; rfl
              clear h42 hx
              go_wp2_with (go_at_call 99; refine (HN.out _).mono ?_; rintro e w' ⟨rfl, rfl⟩)
              go_ret2
              exact ⟨⟨_, by rw [HPF.out]; rfl, by rw [HPF.out]; exact Kd.R_nil _ _ _ _ _⟩, Below.refl _ _⟩
    case rest =>
      rename World => wc'
      clear HH
      go_wp2_with fail
      go_loopw [0, 4, 7, 8, 9, 10, 11, 12] (fun v0 v4 _ _ _ _ _ _ wr => LoopR s w wr v0 v4) (fun v0 _ _ _ _ _ _ _ _ => sizeOfStr v0)
      case atStart => exact hcut
      case round =>
        clear hcut
        obtain ⟨out, L, rfl, HR, HB, HL, HQ⟩ := hrel
        have hLl := bytesOf_length L
        cases hL : bytesOf L with
        | nil =>
          have hLe : L.toList.isEmpty = true := by rw [isEmpty_toList, hL]; rfl
          have hto : totalF (bytesOf s) = some out := by rw [HQ.out, hL]; simp [stepsF]
          have hpf := HPT.out
          rw [hto] at hpf
          obtain ⟨A, c, rfl, hle, hC⟩ := Kd.R_reads HR.out
          have HPF := Aside0.mk hpf
          have HC := Aside0.mk hC
          clear hL hLl hto hpf hC
          have hol : out.length ≤ 1000001 := by have := HL.out; omega
          go_wp2_with fail
          go_loop [13, 167] (fun _ i => ∃ k : Nat, k ≤ out.length ∧ i = .int .i64 k ∧ Aside0 ((out.take k).any wide = false)) (fun _ i => out.length - (intOf i).toNat)
          case atStart => exact ⟨0, by omega, rfl, ⟨rfl⟩⟩
          case round =>
            obtain ⟨k, hk, rfl, HA⟩ := hrel
            by_cases hlt : k < out.length
            · obtain ⟨ad, x, rfl, hx, e0, e1, e2⟩ := stp_at HC.out k hlt
              have HX := Aside0.mk hx
              have hsz : (strOfNums x.name).size = x.name.length := size_str
              clear hx
              cases hrf : wide x with
              | false =>
                have hw : (strOfNums x.name).size ≤ 128 := by
                  rw [hsz]
                  simp [wide] at hrf
                  omega
                have HF := Aside0.mk hrf
                clear hrf hsz
                go_wp2
                go_round
                case rel => exact ⟨k + 1, by omega, by go_num, ⟨by rw [List.take_add_one, HX.out]; simp [HF.out, HA.out]⟩⟩
                case measure => simp [intOf]; omega
              | true =>
                have hw : 128 < (strOfNums x.name).size := by
                  rw [hsz]
                  simp [wide] at hrf
                  omega
                have hany : out.any wide = true := by
                  rw [List.any_eq_true]
                  exact ⟨x, List.mem_of_getElem? HX.out, hrf⟩
                have h2 := HPF.out
                simp only [if_pos (show 32 < out.length ∨ out.any wide = true from .inr hany)] at h2
                have H2 := Aside0.mk h2
                clear hrf hsz hany h2
                go_wp2
                go_ret2
                exact ⟨⟨_, by rw [H2.out]; rfl, by rw [H2.out]; exact Kd.R_nil _ _ _ _ _⟩, HB.out⟩
            · obtain rfl : k = out.length := by omega
              have hall : out.any wide = false := by
                have := HA.out
                rwa [List.take_of_length_le (by omega)] at this
              by_cases h32 : 32 < out.length
              · have h2 := HPF.out
                simp only [if_pos (show 32 < out.length ∨ out.any wide = true from .inl h32)] at h2
                have H2 := Aside0.mk h2
                clear hall h2
                go_wp2
                go_ret2
                exact ⟨⟨_, by rw [H2.out]; rfl, by rw [H2.out]; exact Kd.R_nil _ _ _ _ _⟩, HB.out⟩
              · have h2 := HPF.out
                simp only [if_neg (show ¬ (32 < out.length ∨ out.any wide = true) by rw [hall]; simp; omega)] at h2
                have H2 := Aside0.mk h2
                clear hall h2
                go_wp2
                go_ret2
                exact ⟨⟨_, by rw [H2.out]; rfl, by rw [H2.out]; exact HR.out⟩, HB.out⟩
        | cons c t =>
          have hLe : L.toList.isEmpty = false := by rw [isEmpty_toList, hL]; rfl
          have hLb := bytesOf_byt L
          rw [hL] at hLb hLl
          have bt : Byt t := fun y hy => hLb y (by simp [hy])
          simp only [List.length_cons] at hLl
          have hLs : L.size ≤ 1000000 := HL.out.2
          have hol : out.length ≤ 1000001 := by have := HL.out; omega
          have hpos : 0 < L.size := by omega
          have hp1 : (1 : Int) ≤ (L.size : Int) := by omega
          have hc0 : (L[0].toNat : Int) = c := by
            have := str_at L 0 hpos
            rw [hL] at this
            simpa using this.symm
          have hcut1 := cut_from_str L 1
          rw [hL, List.drop_succ_cons, List.drop_zero] at hcut1
          obtain ⟨L1, hL1⟩ : ∃ L1, L1 = strOfNums t := ⟨_, rfl⟩
          rw [← hL1] at hcut1
          have hL1b : bytesOf L1 = t := by rw [hL1]; exact bz_str bt
          have hL1s : L1.size = t.length := by rw [hL1, size_str]
          have HLB := Aside0.mk hL
          have HL1B := Aside0.mk hL1b
          clear hL hLb hL1 hL1b
          by_cases h91 : c = 91
          · subst h91
            have hnum := fun w => numberR_calls L1 w (by omega)
            rw [HL1B.out] at hnum
            cases hn : numberF t with
            | none =>
              rw [numR_none hn] at hnum
              have HN := Aside0.mk hnum
              have HE := Aside0.mk (errs HQ.out HLB.out (by simp only [stepF, hn]))
              clear hn hnum
              go_wp2_with (go_at_call 99; refine (HN.out _).mono ?_; rintro e w' ⟨rfl, rfl⟩)
              go_ret2
              exact ⟨err_post HE.out rfl, HB.out⟩
            | some vr =>
              obtain ⟨v, r⟩ := vr
              obtain ⟨W, h1, h2, h3, h4, h5⟩ := numR_some hn
              rw [h1] at hnum
              have HN := Aside0.mk hnum
              have HR4 := Aside0.mk h4
              clear hnum h1
              have hWz : ((W : Int) == 0) = false := by
                have : (W : Int) ≠ 0 := by omega
                simpa using this
              by_cases hWL : 1 + W < L.size
              · obtain ⟨d, hd⟩ : ∃ d : Int, (L[1 + W].toNat : Int) = d := ⟨_, rfl⟩
                have hr : r = d :: t.drop (W + 1) := by
                  have h := str_at L (1 + W) hWL
                  rw [HLB.out, hd, Nat.add_comm, List.getElem?_cons_succ] at h
                  obtain ⟨h6, h7⟩ := List.getElem?_eq_some_iff.1 h
                  rw [h4, List.drop_eq_getElem_cons h6, h7]
                by_cases h93 : d = 93
                · subst h93
                  have hst : stepF (91 :: t) = some (⟨3, [], v⟩, t.drop (W + 1)) := by simp only [stepF, hn, hr]
                  obtain ⟨M, hM⟩ : ∃ M, M = W + 2 := ⟨_, rfl⟩
                  have hW2 : M ≤ L.size := by omega
                  have hcut2 := cut_from_str L M
                  rw [HLB.out, hM, List.drop_succ_cons, ← hM] at hcut2
                  have hwr : IntKind.i64.wrap ((W : Int) + 2) = (M : Int) := by
                    rw [hM, IntKind.wrap_i64]; omega
                  clear hM
                  have HST := Aside0.mk hst
                  clear hn h4 hr hst
                  go_wp2_with (go_at_call 99; refine (HN.out _).mono ?_; rintro e w' ⟨rfl, rfl⟩)
                  go_region_law (refine app26 (w := w) (W := wr) (.tmp 78) (.tmp 81) (by rfl) rfl _ out ⟨3, [], v⟩ rfl rfl HR.out HB.out hol ?_; intro v1 w1 hR1 hB1)
                  go_wp2_with fail
                  have HNX := Aside0.mk (next HQ.out HLB.out HST.out HL.out hR1 hB1)
                  go_roundw
                  case rel => (repeat apply Exists.intro); exact ⟨HNX.out.1, rfl⟩
                  case measure => exact HNX.out.2
                · have HE := Aside0.mk (errs HQ.out HLB.out (by
                    subst hr
                    simp only [stepF, hn]
                    split
                    · rename_i h; simp at h; exact absurd h.2.1 h93
                    · rfl))
                  have hd93 : (d != 93) = true := by simpa using h93
                  clear hn h4 hr
                  go_wp2_with (go_at_call 99; refine (HN.out _).mono ?_; rintro e w' ⟨rfl, rfl⟩)
                  go_ret2
                  exact ⟨err_post HE.out rfl, HB.out⟩
              · have HE := Aside0.mk (errs HQ.out HLB.out (by
                  have : r = [] := by rw [h4]; exact List.drop_eq_nil_of_le (by omega)
                  subst this
                  simp only [stepF, hn]))
                clear hn h4
                go_wp2_with (go_at_call 99; refine (HN.out _).mono ?_; rintro e w' ⟨rfl, rfl⟩)
                go_ret2
                exact ⟨err_post HE.out rfl, HB.out⟩
          · have b91 : (c == 91) = false := by simpa using h91
            by_cases h46 : c = 46
            · subst h46
              by_cases ht1 : 2 ≤ L.size
              · obtain ⟨d, u, rfl⟩ : ∃ d u, t = d :: u := by
                  cases t with
                  | nil => simp at hLl; omega
                  | cons d u => exact ⟨d, u, rfl⟩
                have hd0 : ∃ h : 0 < L1.size, (L1[0].toNat : Int) = d := by
                  have h1 : 0 < L1.size := by rw [hL1s]; simp
                  refine ⟨h1, ?_⟩
                  have := str_at L1 0 h1
                  rw [HL1B.out] at this
                  simpa using this.symm
                obtain ⟨hp2, hd0⟩ := hd0
                have hp3 : (1 : Int) ≤ (L1.size : Int) := by omega
                have hcut3 := cut_from_str L1 1
                rw [HL1B.out, List.drop_succ_cons, List.drop_zero] at hcut3
                have hL1m : L1.size ≤ 1000000 := by omega
                clear hL1s
                by_cases hd46 : d = 46
                · subst hd46
                  have HST : Aside0 (stepF (46 :: 46 :: u) = some (⟨5, [], 0⟩, u)) := ⟨by simp [stepF]⟩
                  go_wp2_with fail
                  go_region_law (refine app26 (w := w) (W := wr) (.tmp 128) (.tmp 130) (by rfl) rfl _ out ⟨5, [], 0⟩ rfl rfl HR.out HB.out hol ?_; intro v1 w1 hR1 hB1)
                  go_wp2_with fail
                  have HNX := Aside0.mk (next HQ.out HLB.out HST.out HL.out hR1 hB1)
                  go_roundw
                  case rel => (repeat apply Exists.intro); exact ⟨HNX.out.1, rfl⟩
                  case measure => exact HNX.out.2
                · have e46 : (d == 46) = false := by simpa using hd46
                  by_cases hd42 : d = 42
                  · subst hd42
                    have HST : Aside0 (stepF (46 :: 42 :: u) = some (⟨4, [], 0⟩, u)) := ⟨by simp [stepF]⟩
                    go_wp2_with fail
                    go_region_law (refine app26 (w := w) (W := wr) (.tmp 138) (.tmp 140) (by rfl) rfl _ out ⟨4, [], 0⟩ rfl rfl HR.out HB.out hol ?_; intro v1 w1 hR1 hB1)
                    go_wp2_with fail
                    have HNX := Aside0.mk (next HQ.out HLB.out HST.out HL.out hR1 hB1)
                    go_roundw
                    case rel => (repeat apply Exists.intro); exact ⟨HNX.out.1, rfl⟩
                    case measure => exact HNX.out.2
                  · have e42 : (d == 42) = false := by simpa using hd42
                    by_cases hd34 : d = 34
                    · subst hd34
                      cases ht : takeD (34 :: u) with
                      | none =>
                        have HE := Aside0.mk (errs HQ.out HLB.out (by simp [stepF, ht]))
                        have HT := Aside0.mk ht
                        clear ht
                        go_wp2_with (with_reducible refine wpList_bytes (o := ⟨some 150, _, _, _, _, _⟩) rfl (.tmp 149) rfl _ rfl (by omega) ?_; intro B d W1 hd hC hb)
                        have hT := TakeR_calls B L1.size d (bytesOf L1) W1 hC (bytesOf_byt L1) hL1m
                        rw [HL1B.out, HT.out] at hT
                        have HTC := Aside0.mk hT
                        have HB1 := Aside0.mk hb
                        clear hT hb hC
                        unfold takeRet at HTC
                        go_wp2_with (go_at_call 100; refine HTC.out.mono ?_; rintro e w2 ⟨rfl, hb2⟩)
                        go_ret2
                        exact ⟨err_post HE.out rfl, below_step HB.out (below_step HB1.out hb2)⟩
                      | some vn =>
                        obtain ⟨v, n⟩ := vn
                        have HST : Aside0 (stepF (46 :: 34 :: u) = some (⟨2, v, 0⟩, (34 :: u).drop n)) := ⟨by simp [stepF, ht]⟩
                        have hcut4 := cut_from_str L1 n
                        rw [HL1B.out] at hcut4
                        have hnL : n ≤ L1.size := by have := (takeD_le ht).2; rw [← HL1B.out, bytesOf_length] at this; exact this
                        have HT := Aside0.mk ht
                        clear ht
                        go_wp2_with (with_reducible refine wpList_bytes (o := ⟨some 150, _, _, _, _, _⟩) rfl (.tmp 149) rfl _ rfl (by omega) ?_; intro B d W1 hd hC hb)
                        have hT := TakeR_calls B L1.size d (bytesOf L1) W1 hC (bytesOf_byt L1) hL1m
                        rw [HL1B.out, HT.out] at hT
                        have HTC := Aside0.mk hT
                        have HB1 := Aside0.mk hb
                        clear hT hb hC
                        unfold takeRet at HTC
                        go_wp2_with (go_at_call 100; refine HTC.out.mono ?_; rintro e w2 ⟨rfl, hb2⟩)
                        have HB2 := Aside0.mk (below_step HB1.out hb2)
                        go_region_law (refine app26 (w := w) (W := w2) (.tmp 157) (.tmp 160) (by rfl) rfl _ out ⟨2, v, 0⟩ rfl rfl (Kd.R_below HR.out HB2.out) (below_step HB.out HB2.out) hol ?_; intro v1 w1 hR1 hB1)
                        go_wp2_with fail
                        have HNX := Aside0.mk (next HQ.out HLB.out HST.out HL.out hR1 hB1)
                        go_roundw
                        case rel => (repeat apply Exists.intro); exact ⟨HNX.out.1, rfl⟩
                        case measure => exact HNX.out.2
                    · have e34 : (d == 34) = false := by simpa using hd34
                      have hwl := takeWhile_le (p := letterF) (d :: u)
                      have htw := tw_eq (p := letterF) (d :: u)
                      obtain ⟨W, hW⟩ : ∃ W, ((d :: u).takeWhile letterF).length = W := ⟨_, rfl⟩
                      rw [hW, ← HL1B.out, bytesOf_length] at hwl
                      rw [hW] at htw
                      have hup : ∀ k, ∀ h : k < L1.size, k < W → letterF (L1[k].toNat : Int) = true := fun k h hk => by
                        refine (tw_take (p := letterF) (d :: u) k (by omega) _ ?_).1 (by omega)
                        rw [← HL1B.out]; exact str_at L1 k h
                      have hst : ∀ h : W < L1.size, letterF (L1[W].toNat : Int) = false := fun h => by
                        have := tw_take (p := letterF) (d :: u) W (by omega) _ (by rw [← HL1B.out]; exact str_at L1 W h)
                        cases hc : letterF (L1[W].toNat : Int) with
                        | false => rfl
                        | true => have := this.2 hc; omega
                      have HUP := Aside0.mk hup
                      have HSTP := Aside0.mk hst
                      have hname : Aside0 (∀ w : World, Calls Tryd.prog 66 #[.string (L1.extract 0 W)] w fun e w' => e = .returned (.bool (nameF ((d :: u).take W))) ∧ w = w') := ⟨fun w => by
                        have h := NameR_calls (L1.extract 0 W) w (by simp; omega)
                        rw [bytesOf_extract, List.drop_zero, HL1B.out] at h
                        exact h⟩
                      have hres : stepF (46 :: d :: u) = if nameF ((d :: u).take W) then some (⟨2, (d :: u).take W, 0⟩, (d :: u).drop W) else none := by
                        simp only [stepF, if_neg hd46, if_neg hd42, if_neg hd34]
                        unfold nameP
                        simp only [hW, ← htw]
                        cases nameF ((d :: u).takeWhile letterF) <;> rfl
                      have hcut5 := cut_from_str L1 W
                      have hcut6 := cut_to_str L1 W
                      rw [HL1B.out] at hcut5 hcut6
                      rw [hcut6] at hname
                      have HRES := Aside0.mk hres
                      clear hup hst htw hW hres
                      go_wp2_with fail
                      go_loop [12] (fun i => ∃ k : Nat, k ≤ W ∧ i = .int .i64 k) (fun i => L1.size - (intOf i).toNat)
                      case atStart => exact ⟨0, by omega, rfl⟩
                      case round =>
                        obtain ⟨k, hk, rfl⟩ := hrel
                        have hkc : k < W ∨ k = W := by omega
                        rcases hkc with hkW | rfl
                        · have hlt : k < L1.size := by omega
                          have hcl := LetterR_calls (L1[k].toNat : Int) wr
                          rw [HUP.out k hlt hkW] at hcl
                          have HCL := Aside0.mk hcl
                          clear hcl
                          go_wp2_with (go_at_call 101; refine HCL.out.mono ?_; rintro e w' ⟨rfl, rfl⟩)
                          go_round
                          case rel => exact ⟨k + 1, by omega, by go_num⟩
                          case measure => simp [intOf]; omega
                        · cases hn : nameF ((d :: u).take k) with
                          | true =>
                            have HST : Aside0 (stepF (46 :: d :: u) = some (⟨2, (d :: u).take k, 0⟩, (d :: u).drop k)) := ⟨by rw [HRES.out, if_pos hn]⟩
                            rw [hn] at hname
                            clear hn
                            by_cases hlt : k < L1.size
                            · have hcl := LetterR_calls (L1[k].toNat : Int) wr
                              rw [HSTP.out hlt] at hcl
                              have HCL := Aside0.mk hcl
                              clear hcl
                              go_wp2_with (first | (go_at_call 101; refine HCL.out.mono ?_; rintro e w' ⟨rfl, rfl⟩) | (go_at_call 66; refine (hname.out _).mono ?_; rintro e w' ⟨rfl, rfl⟩))
                              go_region_law (refine app26 (w := w) (W := wr) (.tmp 114) (.tmp 119) (by rfl) rfl _ out ⟨2, (d :: u).take k, 0⟩ rfl rfl HR.out HB.out hol ?_; intro v1 w1 hR1 hB1)
                              go_wp2_with fail
                              have HNX := Aside0.mk (next HQ.out HLB.out HST.out HL.out hR1 hB1)
                              go_roundw
                              case rel => (repeat apply Exists.intro); exact ⟨HNX.out.1, rfl⟩
                              case measure => exact HNX.out.2
                            · go_wp2_with (go_at_call 66; refine (hname.out _).mono ?_; rintro e w' ⟨rfl, rfl⟩)
                              go_region_law (refine app26 (w := w) (W := wr) (.tmp 114) (.tmp 119) (by rfl) rfl _ out ⟨2, (d :: u).take k, 0⟩ rfl rfl HR.out HB.out hol ?_; intro v1 w1 hR1 hB1)
                              go_wp2_with fail
                              have HNX := Aside0.mk (next HQ.out HLB.out HST.out HL.out hR1 hB1)
                              go_roundw
                              case rel => (repeat apply Exists.intro); exact ⟨HNX.out.1, rfl⟩
                              case measure => exact HNX.out.2
                          | false =>
                            have HE := Aside0.mk (errs HQ.out HLB.out (by rw [HRES.out, hn]; rfl))
                            rw [hn] at hname
                            clear hn
                            by_cases hlt : k < L1.size
                            · have hcl := LetterR_calls (L1[k].toNat : Int) wr
                              rw [HSTP.out hlt] at hcl
                              have HCL := Aside0.mk hcl
                              clear hcl
                              go_wp2_with (first | (go_at_call 101; refine HCL.out.mono ?_; rintro e w' ⟨rfl, rfl⟩) | (go_at_call 66; refine (hname.out _).mono ?_; rintro e w' ⟨rfl, rfl⟩))
                              go_ret2
                              exact ⟨err_post HE.out rfl, HB.out⟩
                            · go_wp2_with (go_at_call 66; refine (hname.out _).mono ?_; rintro e w' ⟨rfl, rfl⟩)
                              go_ret2
                              exact ⟨err_post HE.out rfl, HB.out⟩
              · have HE := Aside0.mk (errs HQ.out HLB.out (by
                  obtain rfl : t = [] := List.eq_nil_of_length_eq_zero (by omega)
                  rfl))
                go_wp2_with fail
                go_ret2
                exact ⟨err_post HE.out rfl, HB.out⟩
            · have b46 : (c == 46) = false := by simpa using h46
              have HE := Aside0.mk (errs HQ.out HLB.out (by
                unfold stepF
                split
                · rename_i h; simp at h; exact absurd h.1 h91
                · rename_i h; simp at h; exact absurd h.1 h46
                · rfl))
              go_wp2_with fail
              go_ret2
              exact ⟨err_post HE.out rfl, HB.out⟩
end Go.Proofs.YtllgfccckcgekaaDoor
