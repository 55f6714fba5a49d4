/- What props.Take computes. Conditions: texts of at most 1000000 bytes. -/
import Derived.Test.YtllgfccckcgekaaDoorProps
import Derived.Test.YtllgfccckcgekaaDoorTells
namespace Go.Proofs.YtllgfccckcgekaaDoor
set_option maxRecDepth 100000
set_option maxHeartbeats 4000000
open Go.RowKit Go.Proofs.YtllgfccckcgekaaDoorW.PrintWords Go.Proofs.YtllgfccckcgekaaDoorW.PrintLast Go.Proofs.YtllgfccckcgekaaDoorW.PrintMore

def wordF (xs : List Int) : List Int := xs.takeWhile (fun x => x != 32)
theorem wordF_le (xs : List Int) : (wordF xs).length ≤ xs.length := (List.takeWhile_sublist _).length_le
theorem indexByte_word (xs : List Int) (bx : Byt xs) : Lib.indexByte (Lib.bytesOf xs) (32 : UInt8) = if (wordF xs).length < xs.length then ((wordF xs).length : Int) else -1 := by
  induction xs with
  | nil => rfl
  | cons x t ih =>
    have ih := ih (fun y hy => bx y (by simp [hy]))
    have hx := bx x (by simp)
    have hle := wordF_le t
    have e : (UInt8.ofNat x.toNat == 32) = (x == 32) := by
      rw [Bool.eq_iff_iff]
      simp only [beq_iff_eq]
      constructor
      · intro h
        have h2 := congrArg UInt8.toNat h
        simp only [UInt8.toNat_ofNat'] at h2
        have h3 : (32 : UInt8).toNat = 32 := rfl
        omega
      · intro h
        rw [h]
        rfl
    unfold Lib.bytesOf at ih ⊢
    simp only [List.map_cons, Lib.indexByte, e]
    rw [ih]
    by_cases h : x = 32
    · simp [h, wordF]
    · have h2 : (wordF (x :: t)).length = (wordF t).length + 1 := by simp [wordF, h]
      simp only [h2, beq_eq_false_iff_ne.2 h, List.length_cons, Bool.false_eq_true, if_false]
      by_cases h3 : (wordF t).length < t.length
      · rw [if_pos h3, if_pos (show (wordF t).length + 1 < t.length + 1 by omega), if_neg (by simp)]
        rfl
      · rw [if_neg h3, if_neg (show ¬(wordF t).length + 1 < t.length + 1 by omega)]
        rfl
theorem IndexByte_calls (A : Option Addr) (n c : Nat) (xs : List Int) (w : World) (hx : (Kd.int .u8).C w A n xs) (bx : Byt xs) (hn : 0 < n) :
    Calls Tryd.prog 79 #[.slice A n c, .int .u8 32] w fun e w' => e = .returned (.int .i64 (if (wordF xs).length < xs.length then ((wordF xs).length : Int) else -1)) ∧ w = w' := by
  obtain ⟨h1, h2, h3⟩ := Kd.reads_of_C (enc := Value.int .u8) (d := (0 : Int)) (h1 := fun _ => rfl) hx
  obtain ⟨ad, rfl, hc⟩ := h3 hn
  refine (Tryd.bytes_IndexByte_at ad n c xs 32 w h1 hc).mono fun e w' ⟨he, hw⟩ => ⟨?_, hw.symm⟩
  rw [he, ← indexByte_word xs bx]
  rfl

/-- A round of Take: tag, anchor, where it stands, where the last word ended, what is ahead. -/
def takeG : Nat → List Int → List Int → Nat → Nat → List Int → Option (List Int × List Int × Nat)
  | 0, t, a, _, n, _ => some (t, a, n)
  | k + 1, t, a, pos, n, ys =>
    if ys.head? == some 38 || ys.head? == some 33 then
      match addF t a (wordF ys) with
      | none => none
      | some (t', a') => takeG k t' a' (pos + (wordF ys).length + lead (ys.drop (wordF ys).length)) (pos + (wordF ys).length) (nb (ys.drop (wordF ys).length))
    else some (t, a, n)
def takeF (xs : List Int) : Option (List Int × List Int × Nat) := takeG (xs.length + 1) [] [] 0 0 xs
def TakePost (xs : List Int) (w : World) (e : Ending) (w' : World) : Prop :=
  Below w.heap.size w w' ∧ (match takeF xs with
    | none => e = .returned (.tuple #[.agg #[.string ⟨#[]⟩, .string ⟨#[]⟩], .int .i64 0, .bool false])
    | some (t, a, n) => ∃ tb ab : ByteArray, e = .returned (.tuple #[.agg #[.string tb, .string ab], .int .i64 n, .bool true]) ∧ bytesOf tb = t ∧ bytesOf ab = a)

theorem takeG_end (k : Nat) (t a : List Int) (pos n : Nat) (ys : List Int) (h : (ys.head? == some 38 || ys.head? == some 33) = false) : takeG k t a pos n ys = some (t, a, n) := by
  cases k with
  | zero => rfl
  | succ k => simp only [takeG, h, Bool.false_eq_true, if_false]
theorem size56 : (Tryd.prog.info? 56).map (·.size) = some 2 := by kernel_rfl
theorem results_p {w : World} {g : Nat} {t a : ByteArray} (hp : PropsAt w g t a) (tmps : Array Value) (h2 : tmps.getD 2 undef = .pointer (some ⟨g, 0, none⟩)) :
    (results Tryd.f41 tmps).run Tryd.prog w = .ok (.tuple #[.agg #[.string t, .string a], tmps.getD 3 undef, tmps.getD 4 undef]) w := by
  have hl := run_loadVar_row (P := Tryd.prog) w g 56 56 _ (0, 0) _ hp Tryd.underlying56 rfl size56
  simp only [Array.getD_eq_getD_getElem?] at h2
  simp [results, h2, asAddr, hl]
theorem bytesOf_strOfNums (xs : List Int) (bx : Byt xs) : bytesOf (strOfNums xs) = xs := by
  have h := strOfNums_bytesOf (strOfNums xs)
  exact strOfNums_inj (bytesOf_byt _) bx h
theorem C_takeN {w : World} {A : Option Addr} {n : Nat} {xs : List Int} (h : (Kd.int .u8).C w A n xs) (m : Nat) (hm : m ≤ n) : (Kd.int .u8).C w A m (xs.take m) := by
  obtain rfl : xs.length = n := h.1
  have h3 := Kd.C_take (m := m) h hm
  have e : (xs.take m).length = m := by rw [List.length_take]; omega
  rwa [e] at h3
theorem wordF_take (xs : List Int) : xs.take (wordF xs).length = wordF xs := by
  unfold wordF
  induction xs with
  | nil => rfl
  | cons x t ih =>
    by_cases h : (x != 32) = true
    · simp [h, ih]
    · simp [h]
theorem wordF_pos {ys : List Int} (h : (ys.head? == some 38 || ys.head? == some 33) = true) : 0 < (wordF ys).length := by
  cases ys with
  | nil => simp at h
  | cons y t =>
    have hy : (y != 32) = true := by
      simp at h
      rcases h with rfl | rfl <;> rfl
    simp [wordF, hy]
theorem Take_calls (A : Option Addr) (n c : Nat) (xs : List Int) (w : World) (hx : (Kd.int .u8).C w A n xs) (bx : Byt xs) (hc : n ≤ c) (hn : n ≤ 1000000) :
    Calls Tryd.prog 41 #[.slice A n c] w (TakePost xs w) := by
  have HX := Aside0.mk hx
  have LX := Aside0.mk hx.1
  clear hx
  go_enter Tryd.func41, Tryd.ntmps41
  go_wp2_with fail
  go_loopw [5, 3, 6, 7] (fun at_ nn _ _ wr => ∃ (pos m k : Nat) (t a : ByteArray), at_ = .int .i64 pos ∧ nn = .int .i64 m ∧ pos ≤ n ∧ m ≤ n ∧ Aside0 (PropsAt wr w.heap.size t a) ∧ Aside0 (Below w.heap.size w wr) ∧ Aside0 (n < pos + k) ∧ Aside0 (takeF xs = takeG k (bytesOf t) (bytesOf a) pos m (xs.drop pos))) (fun at_ _ _ _ _ => n - (intOf at_).toNat)
  case atStart => exact ⟨0, 0, n + 1, ⟨#[]⟩, ⟨#[]⟩, rfl, rfl, by omega, by omega, ⟨blk_new w _⟩, ⟨below_alloc (Below.refl _ _) _⟩, ⟨by omega⟩, ⟨by rw [← LX.out]; rfl⟩⟩
  case round =>
    obtain ⟨pos, m, k, t, a, rfl, rfl, hpos, hm, hp, hb, hk, htk⟩ := hrel
    by_cases hlt : pos < n
    · obtain ⟨ad, rfl, hc1⟩ := Kd.at_int HX.out pos (by omega) (by omega)
      rw [Int.toNat_natCast] at hc1
      have hh : (xs.drop pos).head? = some (rd xs pos) := by
        rw [List.head?_drop]
        simp [rd, List.getElem?_eq_getElem (show pos < xs.length by rw [LX.out]; exact hlt)]
      have hg0 : wr.cell? ⟨w.heap.size, 0, none⟩ = some (.string t) := (blk_cell hp.out 0).trans rfl
      have hg1 : wr.cell? ⟨w.heap.size, 1, none⟩ = some (.string a) := (blk_cell hp.out 1).trans rfl
      have f0 := blk_frozen hp.out 0
      have f1 := blk_frozen hp.out 1
      have hc1' : wr.cell? (ad.add pos) = some (.int .u8 (rd xs pos)) := by
        obtain ⟨ad', e', hcc⟩ := Kd.at_int (Kd.C_below HX.out hb.out) pos (by omega) (by omega)
        cases e'
        rwa [Int.toNat_natCast] at hcc
      clear hc1
      obtain ⟨y, hy⟩ : ∃ y, rd xs pos = y := ⟨_, rfl⟩
      rw [hy] at hc1' hh
      clear hy
      have HH := Aside0.mk hh
      clear hh
      by_cases hq : (y == 38 || y == 33) = false
      · have hy1 : (y == 38) = false := by revert hq; cases (y == 38) <;> simp
        have hy2 : (y == 33) = false := by revert hq; cases (y == 33) <;> simp
        have HQ := Aside0.mk hq
        clear hq
        go_wp2
        have hset : PropsAt ((wr.setCell ⟨w.heap.size, 0, none⟩ (.string t)).setCell ⟨w.heap.size, 1, none⟩ (.string a)) w.heap.size t a := (hp.out.set0 t).set1 a
        (try simp only [Exit.inBlock, Exit.then])
        refine bodyPost_ret (results_p hset _ rfl) rfl ?_
        refine ⟨(hb.out.setCell (Nat.le_refl _) _).setCell (Nat.le_refl _) _, ?_⟩
        rw [htk.out, takeG_end _ _ _ _ _ _ (by rw [HH.out]; simpa using HQ.out)]
        exact ⟨t, a, rfl, rfl, rfl⟩
      · have hyy : (y == 38) = true ∨ ((y == 38) = false ∧ (y == 33) = true) := by revert hq; cases (y == 38) <;> cases (y == 33) <;> simp
        clear hq
        have hqs : ((xs.drop pos).head? == some 38 || (xs.drop pos).head? == some 33) = true := by
          rw [HH.out]
          rcases hyy with h | ⟨h1, h2⟩
          · simp at h; simp [h]
          · simp at h2; simp [h2]
        have HQ := Aside0.mk hqs
        clear hqs
        have hCr := Kd.C_below HX.out hb.out
        obtain ⟨A1, hcut1, hC1⟩ := cutk pos hCr hpos hc
        obtain ⟨ys, hys⟩ : ∃ ys, xs.drop pos = ys := ⟨_, rfl⟩
        rw [hys] at htk HQ HH hC1
        have byx : Byt ys := by rw [← hys]; exact bx.drop _
        have HYS := Aside0.mk hys
        clear hys
        have lys : ys.length = n - pos := hC1.1
        have hwl := wordF_le ys
        have hword := C_takeN hC1 (wordF ys).length (by omega)
        rw [wordF_take] at hword
        obtain ⟨q, hq⟩ : ∃ q, n - pos = q := ⟨_, rfl⟩
        rw [hq] at lys hcut1 hC1
        obtain ⟨m1, hm1⟩ : ∃ m1, (wordF ys).length = m1 := ⟨_, rfl⟩
        rw [hm1] at hwl hword
        have HC1 := Aside0.mk hC1
        have HW := Aside0.mk hword
        have HM1 := Aside0.mk hm1
        clear hC1 hword
        have hm0 : 0 < m1 := by rw [← hm1]; exact wordF_pos HQ.out
        have byw : Byt (wordF ys) := by rw [← wordF_take]; exact byx.take _
        have hcv : (convert 36 9 (.slice A1 m1 (c - pos))).run Tryd.prog wr = .ok (.string (strOfNums (wordF ys))) wr := Kd.C_string Tryd.underlying36 Tryd.underlying5 Tryd.underlying9 HW.out
        have hcv2 : m1 = q → (convert 36 9 (.slice A1 q (c - pos))).run Tryd.prog wr = .ok (.string (strOfNums (wordF ys))) wr := by rintro rfl; exact hcv
        have hcq : q ≤ c - pos := by omega
        obtain ⟨cc, hcc⟩ : ∃ cc, c - pos = cc := ⟨_, rfl⟩
        rw [hcc] at hcut1 hcv hcv2 hcq
        have hsz : (strOfNums (wordF ys)).size = m1 := by rw [← bytesOf_length, bytesOf_strOfNums _ byw, hm1]
        obtain ⟨st, hst⟩ : ∃ st, strOfNums (wordF ys) = st := ⟨_, rfl⟩
        rw [hst] at hcv hcv2 hsz
        have hbst : bytesOf st = wordF ys := by rw [← hst, bytesOf_strOfNums _ byw]
        have HST := Aside0.mk hbst
        clear hst hbst hm1
        have HC2 := Aside0.mk hcv2
        have hadd := add_calls w.heap.size w.heap.size t a st wr hp.out (Nat.le_refl _) (by omega)
        have HADD := Aside0.mk hadd
        have hk0 : ∃ k', k = k' + 1 := ⟨k - 1, by have := hk.out; omega⟩
        obtain ⟨k', rfl⟩ := hk0
        have hidx : (m1 < q) ∨ m1 = q := by omega
        clear hadd hcv2 hg0 hg1 f0 f1
        rcases hyy with hy1 | ⟨hy1, hy2⟩ <;> rcases hidx with hlq | rfl
        all_goals
          go_wp2_with fail
          have hix := IndexByte_calls A1 _ cc ys wr HC1.out byx (by omega)
          rw [HM1.out] at hix
          first | rw [if_pos (by omega)] at hix | rw [if_neg (by omega)] at hix
          refine hix.mono ?_
          clear hix
          rintro e w' ⟨rfl, rfl⟩
          go_wp2_with fail
          refine HADD.out.mono ?_
          rintro e w1 ⟨b, t', a', rfl, hp1, hb1, hres⟩
          have HR := Aside0.mk hres
          clear hres
          have d0 : w1.cell? ⟨w.heap.size, 0, none⟩ = some (.string t') := (blk_cell hp1 0).trans rfl
          have d1 : w1.cell? ⟨w.heap.size, 1, none⟩ = some (.string a') := (blk_cell hp1 1).trans rfl
          have e0 := blk_frozen hp1 0
          have e1 := blk_frozen hp1 1
          have hbw := hb.out.trans hb1
          cases b with
          | false =>
            have hnone : addF (bytesOf t) (bytesOf a) (bytesOf st) = none := by
              have := HR.out
              revert this
              cases addF (bytesOf t) (bytesOf a) (bytesOf st) with
              | none => intro _; rfl
              | some p => simp
            have HN := Aside0.mk hnone
            clear hnone
            go_wp2
            have hset : PropsAt ((w1.setCell ⟨w.heap.size, 0, none⟩ (.string ⟨#[]⟩)).setCell ⟨w.heap.size, 1, none⟩ (.string ⟨#[]⟩)) w.heap.size ⟨#[]⟩ ⟨#[]⟩ := (hp1.set0 _).set1 _
            (try simp only [Exit.inBlock, Exit.then])
            refine bodyPost_ret (results_p hset _ rfl) rfl ?_
            refine ⟨(hbw.setCell (Nat.le_refl _) _).setCell (Nat.le_refl _) _, ?_⟩
            rw [htk.out]
            simp only [takeG, HQ.out, if_true, ← HST.out, HN.out]
            rfl
          | true =>
            have HCN := Kd.C_below HX.out hbw
            obtain ⟨A2, hcut2, hC2⟩ := cutk (pos + m1) HCN (by omega) hc
            have LT := lead_nb (ys.drop m1)
            have hdd : xs.drop (pos + m1) = ys.drop m1 := by rw [← HYS.out, List.drop_drop]
            rw [hdd] at hC2
            rw [List.length_drop] at LT
            have hm1 := HM1.out
            obtain ⟨r, hr⟩ : ∃ r, n - (pos + m1) = r := ⟨_, rfl⟩
            obtain ⟨c2, hc2⟩ : ∃ c2, c - (pos + m1) = c2 := ⟨_, rfl⟩
            rw [hr, hc2] at hcut2
            rw [hr] at hC2
            have HC3 := Aside0.mk hC2
            have HDD := Aside0.mk hdd
            clear hC2 hdd
            rw [Int.natCast_add] at hcut2
            obtain ⟨l, hl⟩ : ∃ l, (nb (ys.drop m1)).length = l := ⟨_, rfl⟩
            obtain ⟨ld, hld⟩ : ∃ ld, lead (ys.drop m1) = ld := ⟨_, rfl⟩
            have ht := TrimLeft_calls A2 r c2 (ys.drop m1) w1 HC3.out (by omega)
            rw [hl] at ht
            rw [hl, hld] at LT
            have HLD := Aside0.mk hld
            clear hld hl
            go_wp2_with fail
            refine ht.mono ?_
            rintro e w' ⟨A', c', rfl, -, -, -, rfl⟩
            clear ht
            go_wp2
            go_roundw
            case rel => 
              refine ⟨pos + m1 + ld, pos + m1, k', t', a', ?_, ?_, by omega, by omega, ⟨hp1⟩, ⟨hbw⟩, ⟨by have := hk.out; omega⟩, ⟨?_⟩⟩
              · congr 1; omega
              · congr 1
              · rw [htk.out, ← HLD.out, ← hm1, ← List.drop_drop, HM1.out, HDD.out, lead_at, HLD.out]
                have hr := HR.out
                revert hr
                simp only [takeG, HQ.out, if_true, ← HST.out]
                cases addF (bytesOf t) (bytesOf a) (bytesOf st) with
                | none => simp
                | some p =>
                  rintro ⟨-, h1, h2⟩
                  simp only [h1, h2, HST.out, HM1.out, HLD.out]
            case measure => simp [intOf]; omega
    · obtain rfl : pos = n := by omega
      have hg0 : wr.cell? ⟨w.heap.size, 0, none⟩ = some (.string t) := (blk_cell hp.out 0).trans rfl
      have hg1 : wr.cell? ⟨w.heap.size, 1, none⟩ = some (.string a) := (blk_cell hp.out 1).trans rfl
      have f0 := blk_frozen hp.out 0
      have f1 := blk_frozen hp.out 1
      go_wp2
      have hset : PropsAt ((wr.setCell ⟨w.heap.size, 0, none⟩ (.string t)).setCell ⟨w.heap.size, 1, none⟩ (.string a)) w.heap.size t a := (hp.out.set0 t).set1 a
      (try simp only [Exit.inBlock, Exit.then])
      refine bodyPost_ret (results_p hset _ rfl) rfl ?_
      refine ⟨(hb.out.setCell (Nat.le_refl _) _).setCell (Nat.le_refl _) _, ?_⟩
      rw [htk.out, takeG_end _ _ _ _ _ _ (by rw [List.drop_of_length_le (by rw [LX.out]; exact Nat.le_refl _)]; rfl)]
      exact ⟨t, a, rfl, rfl, rfl⟩
end Go.Proofs.YtllgfccckcgekaaDoor
