/- What path.number and path.name compute. Conditions: texts of at most 1000000 bytes. -/
import Derived.Test.YtllgfccckcgekaaDoorPathF
import Derived.Test.YtllgfccckcgekaaDoorShC
import Derived.Test.YtllgfccckcgekaaDoorTail5
import Derived.Deep.QuietTactic
import Derived.BigQuiet
import Derived.Deep.RegionWith
import Derived.Laws.Strings2
namespace Go.Proofs.YtllgfccckcgekaaDoor
set_option maxRecDepth 100000
set_option maxHeartbeats 8000000
open Go.RowKit Go.Proofs.YtllgfccckcgekaaDoorW.PrintWords Go.Proofs.YtllgfccckcgekaaDoorW.PrintLast Go.Proofs.YtllgfccckcgekaaDoorW.PrintMore

theorem tw_take {p : Int → Bool} : ∀ (xs : List Int) (k : Nat), k ≤ (xs.takeWhile p).length → ∀ x, xs[k]? = some x → (k < (xs.takeWhile p).length ↔ p x = true)
  | [], k, _, x, h => by simp at h
  | a :: xs, 0, _, x, h => by
    simp at h
    subst h
    rw [List.takeWhile_cons]
    cases p a <;> simp
  | a :: xs, k + 1, hk, x, h => by
    rw [List.takeWhile_cons] at hk ⊢
    cases hp : p a with
    | false => rw [hp] at hk; simp at hk
    | true =>
      rw [hp] at hk
      simp only [if_true, List.length_cons] at hk ⊢
      have := tw_take (p := p) xs k (by omega) x (by simpa using h)
      rw [Nat.add_lt_add_iff_right]
      exact this
theorem tw_eq {p : Int → Bool} (xs : List Int) : xs.takeWhile p = xs.take (xs.takeWhile p).length := by
  induction xs with
  | nil => rfl
  | cons x t ih =>
    rw [List.takeWhile_cons]
    split
    · rw [List.length_cons, List.take_succ_cons, ← ih]
    · rfl
theorem str_at (s : ByteArray) (k : Nat) (hk : k < s.size) : (bytesOf s)[k]? = some ((s[k].toNat : Int)) := by
  unfold bytesOf
  rw [List.getElem?_map, Array.getElem?_toList]
  have : s.data[k]? = some s.data[k] := Array.getElem?_eq_getElem hk
  rw [this]
  rfl
def strRet3 (o : Option (Int × List Int)) : Value := match o with | some (v, r) => .tuple #[.int .i64 v, .string (strOfNums r), .bool true] | none => .tuple #[.int .i64 0, .string ⟨#[]⟩, .bool false]
theorem cut_from_str (s : ByteArray) (n : Nat) : s.extract n s.size = strOfNums ((bytesOf s).drop n) := by
  have h := bytesOf_extract s n s.size
  rw [List.take_of_length_le (by rw [bytesOf_length]; exact Nat.le_refl _)] at h
  rw [← h, strOfNums_bytesOf]
theorem cut_to_str (s : ByteArray) (n : Nat) : s.extract 0 n = strOfNums ((bytesOf s).take n) := by
  have h := bytesOf_extract s 0 n
  rw [List.drop_zero] at h
  rw [← h, strOfNums_bytesOf]
theorem dec_digits : ∀ (l : List UInt8) (acc : Nat), (l.all fun b => digitF (b.toNat : Int)) = true → Lib.decFrom acc l = some ((l.map fun b => (b.toNat : Int)).foldl (fun v c => v * 10 + (c - 48)) (acc : Int)).toNat ∧ 0 ≤ (l.map fun b => (b.toNat : Int)).foldl (fun v c => v * 10 + (c - 48)) (acc : Int)
  | [], acc, _ => by simp [Lib.decFrom]
  | b :: r, acc, h => by
    simp only [List.all_cons, Bool.and_eq_true] at h
    obtain ⟨h1, h2⟩ := h
    simp only [digitF, Bool.and_eq_true, decide_eq_true_eq] at h1
    have hd : Lib.digitVal b = some (b.toNat - 48) := by unfold Lib.digitVal; rw [if_pos (by omega)]
    have ih := dec_digits r (acc * 10 + (b.toNat - 48)) h2
    have e : ((acc * 10 + (b.toNat - 48) : Nat) : Int) = (acc : Int) * 10 + ((b.toNat : Int) - 48) := by omega
    rw [e] at ih
    simp only [Lib.decFrom, hd, List.map_cons, List.foldl_cons]
    exact ih
theorem atoi_digits (t : ByteArray) (h0 : 0 < t.size) (h : (bytesOf t).all digitF = true) : Lib.atoi t.data.toList = some (numV (bytesOf t)) := by
  have hl : t.data.toList.length = t.size := data_length t
  unfold bytesOf at h ⊢
  rw [List.all_map] at h
  cases hc : t.data.toList with
  | nil => rw [hc] at hl; simp at hl; omega
  | cons b r =>
    rw [hc] at h
    have h' : ((b :: r).all fun b => digitF (b.toNat : Int)) = true := h
    have hb := h'
    simp only [List.all_cons, Bool.and_eq_true, digitF, decide_eq_true_eq] at hb
    obtain ⟨e1, e2⟩ := dec_digits (b :: r) 0 h'
    have n1 : ¬ b = 45 := by rintro rfl; have := hb.1.1; simp at this
    have n2 : ¬ b = 43 := by rintro rfl; have := hb.1.1; simp at this
    simp only [Lib.atoi, beq_iff_eq, n1, n2, if_false, Lib.decNat, List.isEmpty_cons, Bool.false_eq_true, e1, Option.map_some, numV]
    congr 1
    exact Int.toNat_of_nonneg e2
theorem all_takeWhile {p : Int → Bool} (xs : List Int) : (xs.takeWhile p).all p = true := by
  induction xs with
  | nil => rfl
  | cons x t ih =>
    rw [List.takeWhile_cons]
    cases h : p x <;> simp [h, ih]
theorem below_dN {B : Nat} {a w : World} (h : Below B a w) : ∀ q, Below B a (w.drewN q)
  | 0 => h
  | q + 1 => (below_dN h q).drew
theorem number_calls (s : ByteArray) (w : World) (hs : s.size ≤ 1000000) : Calls Tryd.prog 110 #[.string s] w fun e w' => e = .returned (strRet3 (numberF (bytesOf s))) ∧ Below w.heap.size w w' := by
  have hwl := takeWhile_le (p := digitF) (bytesOf s)
  have htw := tw_eq (p := digitF) (bytesOf s)
  have hall := all_takeWhile (p := digitF) (bytesOf s)
  rw [bytesOf_length] at hwl
  obtain ⟨W, hW⟩ : ∃ W, ((bytesOf s).takeWhile digitF).length = W := ⟨_, rfl⟩
  rw [hW] at hwl htw
  have HW := Aside0.mk hW
  have hup : ∀ k, ∀ h : k < s.size, k < W → digitF (s[k].toNat : Int) = true := fun k h hk => (tw_take (p := digitF) (bytesOf s) k (by omega) _ (str_at s k h)).1 (by omega)
  have hst : ∀ h : W < s.size, digitF (s[W].toNat : Int) = false := fun h => by
    have := tw_take (p := digitF) (bytesOf s) W (by omega) _ (str_at s W h)
    cases hc : digitF (s[W].toNat : Int) with
    | false => rfl
    | true => have := this.2 hc; omega
  have HUP := Aside0.mk (fun k (h : k < s.size) (hk : k < W) => (hup k h hk ▸ Digit_calls (s[k].toNat : Int) w : Calls Tryd.prog 138 #[.int .u8 (s[k].toNat : Int)] w fun e w' => e = .returned (.bool true) ∧ w = w'))
  have HST := Aside0.mk (fun (h : W < s.size) => (hst h ▸ Digit_calls (s[W].toNat : Int) w : Calls Tryd.prog 138 #[.int .u8 (s[W].toNat : Int)] w fun e w' => e = .returned (.bool false) ∧ w = w'))
  have hnum : numberF (bytesOf s) = if W < 1 ∨ 6 < W ∨ (1 < W ∧ (bytesOf s).head? = some 48) then none else some (numV ((bytesOf s).take W), (bytesOf s).drop W) := by
    have h2 : ((bytesOf s).takeWhile digitF).head? = if 0 < W then (bytesOf s).head? else none := by
      rw [htw]
      cases W with
      | zero => rfl
      | succ n => cases bytesOf s <;> rfl
    unfold numberF
    simp only [hW, h2, ← htw]
    by_cases h1 : 1 < W
    · simp only [h1, true_and, if_pos (show 0 < W by omega)]
    · simp only [h1, false_and]
  have HNUM := Aside0.mk hnum
  have hat : 0 < W → W ≤ 18 → ∀ w : World, Calls Tryd.prog 139 #[.string (s.extract 0 W)] w fun e w' => e = .returned (.tuple #[.int .i64 (numV ((bytesOf s).take W)), .nilIface]) ∧ Below w.heap.size w w' := by
    intro h0 h18 w
    have hsz : (s.extract 0 W).size = W := by simp; omega
    have hb : bytesOf (s.extract 0 W) = (bytesOf s).take W := by rw [bytesOf_extract, List.drop_zero]
    have ha := atoi_digits (s.extract 0 W) (by omega) (by rw [hb, ← htw]; exact hall)
    rw [hb] at ha
    refine (Tryd.strconv_Atoi (s.extract 0 W) _ (by omega) ha w).mono ?_
    rintro e w' ⟨rfl, t, rfl⟩
    exact ⟨rfl, bytes_below (Below.refl _ _) (Nat.le_refl _) 5 t⟩
  have HAT := Aside0.mk hat
  clear hup hst hnum hat htw hall hW
  have hcase : W < 1 ∨ 6 < W ∨ (1 < W ∧ W ≤ 6 ∧ (∃ h : 0 < s.size, ((s[0].toNat : Int) == 48) = true) ∧ Aside0 ((bytesOf s).head? = some 48)) ∨ (1 < W ∧ W ≤ 6 ∧ (∃ h : 0 < s.size, ((s[0].toNat : Int) == 48) = false) ∧ Aside0 (¬ (bytesOf s).head? = some 48)) ∨ (1 ≤ W ∧ W ≤ 1) := by
    by_cases h0 : 0 < s.size
    · have hh : (bytesOf s).head? = some (s[0].toNat : Int) := by
        rw [List.head?_eq_getElem?]; exact str_at s 0 h0
      by_cases h48 : (s[0].toNat : Int) = 48
      · have : (bytesOf s).head? = some 48 := by rw [hh, h48]
        have b : ((s[0].toNat : Int) == 48) = true := by simpa using h48
        by_cases h1 : W < 1
        · exact .inl h1
        · by_cases h6 : 6 < W
          · exact .inr (.inl h6)
          · by_cases h2 : 1 < W
            · exact .inr (.inr (.inl ⟨h2, by omega, ⟨h0, b⟩, ⟨this⟩⟩))
            · exact .inr (.inr (.inr (.inr (by omega))))
      · have : ¬ (bytesOf s).head? = some 48 := by rw [hh]; simpa using h48
        have b : ((s[0].toNat : Int) == 48) = false := by simpa using h48
        by_cases h1 : W < 1
        · exact .inl h1
        · by_cases h6 : 6 < W
          · exact .inr (.inl h6)
          · by_cases h2 : 1 < W
            · exact .inr (.inr (.inr (.inl ⟨h2, by omega, ⟨h0, b⟩, ⟨this⟩⟩)))
            · exact .inr (.inr (.inr (.inr (by omega))))
    · exact .inl (by omega)
  rcases hcase with hc | hc | ⟨hc1, hc2, ⟨hs0, hb⟩, hh⟩ | ⟨hc1, hc2, ⟨hs0, hb⟩, hh⟩ | ⟨hc1, hc2⟩
  · go_enter Tryd.func110, Tryd.ntmps110
    go_wp2_with fail
    go_loop [5] (fun i => ∃ k : Nat, k ≤ W ∧ i = .int .i64 k) (fun i => s.size - (intOf i).toNat)
    case atStart => exact ⟨0, by omega, rfl⟩
    case round =>
      obtain ⟨k, hk, rfl⟩ := hrel
      have hkc : k < W ∨ k = W := by omega
      rcases hkc with hkW | rfl
      · have hlt : k < s.size := by omega
        go_wp2_with (go_at_call 138; refine (HUP.out k hlt hkW).mono ?_; rintro e w' ⟨rfl, rfl⟩)
        go_round
        case rel => exact ⟨k + 1, by omega, by go_num⟩
        case measure => simp [intOf]; omega
      · by_cases hlt : k < s.size
        all_goals
          go_wp2_with (first | (go_at_call 138; refine (HST.out hlt).mono ?_; rintro e w' ⟨rfl, rfl⟩) | (go_at_call 139; refine (HAT.out (by omega) (by omega) w).mono ?_; rintro e w1 ⟨rfl, hb1⟩))
          go_ret3
          refine ⟨?_, Below.refl _ _⟩
          rw [HNUM.out, if_pos (.inl (by omega))]
          rfl
  · go_enter Tryd.func110, Tryd.ntmps110
    go_wp2_with fail
    go_loop [5] (fun i => ∃ k : Nat, k ≤ W ∧ i = .int .i64 k) (fun i => s.size - (intOf i).toNat)
    case atStart => exact ⟨0, by omega, rfl⟩
    case round =>
      obtain ⟨k, hk, rfl⟩ := hrel
      have hkc : k < W ∨ k = W := by omega
      rcases hkc with hkW | rfl
      · have hlt : k < s.size := by omega
        go_wp2_with (go_at_call 138; refine (HUP.out k hlt hkW).mono ?_; rintro e w' ⟨rfl, rfl⟩)
        go_round
        case rel => exact ⟨k + 1, by omega, by go_num⟩
        case measure => simp [intOf]; omega
      · by_cases hlt : k < s.size
        all_goals
          go_wp2_with (first | (go_at_call 138; refine (HST.out hlt).mono ?_; rintro e w' ⟨rfl, rfl⟩) | (go_at_call 139; refine (HAT.out (by omega) (by omega) w).mono ?_; rintro e w1 ⟨rfl, hb1⟩))
          go_ret3
          refine ⟨?_, Below.refl _ _⟩
          rw [HNUM.out, if_pos (.inr (.inl (by omega)))]
          rfl
  · go_enter Tryd.func110, Tryd.ntmps110
    go_wp2_with fail
    go_loop [5] (fun i => ∃ k : Nat, k ≤ W ∧ i = .int .i64 k) (fun i => s.size - (intOf i).toNat)
    case atStart => exact ⟨0, by omega, rfl⟩
    case round =>
      obtain ⟨k, hk, rfl⟩ := hrel
      have hkc : k < W ∨ k = W := by omega
      rcases hkc with hkW | rfl
      · have hlt : k < s.size := by omega
        go_wp2_with (go_at_call 138; refine (HUP.out k hlt hkW).mono ?_; rintro e w' ⟨rfl, rfl⟩)
        go_round
        case rel => exact ⟨k + 1, by omega, by go_num⟩
        case measure => simp [intOf]; omega
      · by_cases hlt : k < s.size
        all_goals
          go_wp2_with (first | (go_at_call 138; refine (HST.out hlt).mono ?_; rintro e w' ⟨rfl, rfl⟩) | (go_at_call 139; refine (HAT.out (by omega) (by omega) w).mono ?_; rintro e w1 ⟨rfl, hb1⟩))
          go_ret3
          refine ⟨?_, Below.refl _ _⟩
          rw [HNUM.out, if_pos (.inr (.inr ⟨by omega, hh.out⟩))]
          rfl
  · go_enter Tryd.func110, Tryd.ntmps110
    go_wp2_with fail
    go_loop [5] (fun i => ∃ k : Nat, k ≤ W ∧ i = .int .i64 k) (fun i => s.size - (intOf i).toNat)
    case atStart => exact ⟨0, by omega, rfl⟩
    case round =>
      obtain ⟨k, hk, rfl⟩ := hrel
      have hkc : k < W ∨ k = W := by omega
      rcases hkc with hkW | rfl
      · have hlt : k < s.size := by omega
        go_wp2_with (go_at_call 138; refine (HUP.out k hlt hkW).mono ?_; rintro e w' ⟨rfl, rfl⟩)
        go_round
        case rel => exact ⟨k + 1, by omega, by go_num⟩
        case measure => simp [intOf]; omega
      · by_cases hlt : k < s.size
        all_goals
          go_wp2_with (first | (go_at_call 138; refine (HST.out hlt).mono ?_; rintro e w' ⟨rfl, rfl⟩) | (go_at_call 139; refine (HAT.out (by omega) (by omega) w).mono ?_; rintro e w1 ⟨rfl, hb1⟩))
          have hx0 := cut_from_str s k
          go_quiet (fail)
          go_wp2
          go_ret3
          refine ⟨?_, below_dN hb1 _⟩
          rw [HNUM.out, if_neg (fun h => by rcases h with h | h | h <;> first | omega | exact hh.out h.2)]
          rfl
  · go_enter Tryd.func110, Tryd.ntmps110
    go_wp2_with fail
    go_loop [5] (fun i => ∃ k : Nat, k ≤ W ∧ i = .int .i64 k) (fun i => s.size - (intOf i).toNat)
    case atStart => exact ⟨0, by omega, rfl⟩
    case round =>
      obtain ⟨k, hk, rfl⟩ := hrel
      have hkc : k < W ∨ k = W := by omega
      rcases hkc with hkW | rfl
      · have hlt : k < s.size := by omega
        go_wp2_with (go_at_call 138; refine (HUP.out k hlt hkW).mono ?_; rintro e w' ⟨rfl, rfl⟩)
        go_round
        case rel => exact ⟨k + 1, by omega, by go_num⟩
        case measure => simp [intOf]; omega
      · by_cases hlt : k < s.size
        all_goals
          go_wp2_with (first | (go_at_call 138; refine (HST.out hlt).mono ?_; rintro e w' ⟨rfl, rfl⟩) | (go_at_call 139; refine (HAT.out (by omega) (by omega) w).mono ?_; rintro e w1 ⟨rfl, hb1⟩))
          have hx0 := cut_from_str s k
          go_quiet (fail)
          go_wp2
          go_ret3
          refine ⟨?_, below_dN hb1 _⟩
          rw [HNUM.out, if_neg (fun h => by rcases h with h | h | h <;> omega)]
          rfl
theorem slice_one (s : ByteArray) (k : Nat) (hk : k < s.size) (W : World) : (Instr.slice 9 (.string s) (some (.int .i64 (k : Int))) (some (.int .i64 ((k : Int) + 1))) none).run Tryd.prog W = .ok (.string (s.extract k (k + 1))) W := by
  have h := run_slice_string (P := Tryd.prog) W 9 s .i64 .i64 k ((k : Int) + 1) Tryd.underlying9 (by omega) (by omega) (by omega)
  exact h
def strRet3s (o : Option (List Int × List Int)) (xs : List Int) : Value := match o with | some (v, r) => .tuple #[.string (strOfNums v), .string (strOfNums r), .bool true] | none => .tuple #[.string (strOfNums (xs.takeWhile letterF)), .string (strOfNums (xs.drop (xs.takeWhile letterF).length)), .bool false]
theorem name_calls (s : ByteArray) (w : World) (hs : s.size ≤ 1000000) : Calls Tryd.prog 111 #[.string s] w fun e w' => e = .returned (strRet3s (nameP (bytesOf s)) (bytesOf s)) ∧ Below w.heap.size w w' := by
  have hwl := takeWhile_le (p := letterF) (bytesOf s)
  have htw := tw_eq (p := letterF) (bytesOf s)
  rw [bytesOf_length] at hwl
  obtain ⟨W, hW⟩ : ∃ W, ((bytesOf s).takeWhile letterF).length = W := ⟨_, rfl⟩
  rw [hW] at hwl htw
  have hone : ∀ k, ∀ h : k < s.size, bytesOf (s.extract k (k + 1)) = [(s[k].toNat : Int)] := fun k h => by
    rw [bytesOf_extract]
    apply List.ext_getElem?
    intro j
    rw [List.getElem?_drop]
    cases j with
    | zero => rw [List.getElem?_take_of_lt (by omega), Nat.add_zero, str_at s k h]; rfl
    | succ j => rw [List.getElem?_eq_none (by rw [List.length_take]; omega), List.getElem?_eq_none (by simp)]
  have hnm : ∀ k, ∀ h : k < s.size, ∀ w : World, Calls Tryd.prog 103 #[.string (s.extract k (k + 1))] w fun e w' => e = .returned (.bool (letterF (s[k].toNat : Int))) ∧ Below w.heap.size w w' := fun k h w => by
    have hz : (s.extract k (k + 1)).size ≤ 9223372036854775807 := by simp; omega
    refine (Name_calls (s.extract k (k + 1)) w hz).mono ?_
    rintro e w' ⟨rfl, hb⟩
    refine ⟨?_, hb⟩
    rw [hone k h]
    simp [nameF]
  have HUP := Aside0.mk (fun k (h : k < s.size) (hk : k < W) => ((tw_take (p := letterF) (bytesOf s) k (by omega) _ (str_at s k h)).1 (by omega) ▸ hnm k h : ∀ w : World, Calls Tryd.prog 103 #[.string (s.extract k (k + 1))] w fun e w' => e = .returned (.bool true) ∧ Below w.heap.size w w'))
  have hst : ∀ h : W < s.size, letterF (s[W].toNat : Int) = false := fun h => by
    have := tw_take (p := letterF) (bytesOf s) W (by omega) _ (str_at s W h)
    cases hc : letterF (s[W].toNat : Int) with
    | false => rfl
    | true => have := this.2 hc; omega
  have HST := Aside0.mk (fun (h : W < s.size) => (hst h ▸ hnm W h : ∀ w : World, Calls Tryd.prog 103 #[.string (s.extract W (W + 1))] w fun e w' => e = .returned (.bool false) ∧ Below w.heap.size w w'))
  have hres : strRet3s (nameP (bytesOf s)) (bytesOf s) = .tuple #[.string (s.extract 0 W), .string (s.extract W s.size), .bool (nameF ((bytesOf s).take W))] := by
    rw [cut_to_str, cut_from_str]
    unfold nameP
    simp only [hW, ← htw]
    cases hn : nameF ((bytesOf s).takeWhile letterF) with
    | true => rw [if_pos rfl]; rfl
    | false => rw [if_neg (by simp)]; simp only [strRet3s, hW]
  have HRES := Aside0.mk hres
  have HNM := Aside0.mk (fun w => (Name_calls (s.extract 0 W) w (by simp; omega)).mono (fun e w' h => (by
    obtain ⟨rfl, hb⟩ := h
    exact ⟨by rw [bytesOf_extract, List.drop_zero], hb⟩ : e = .returned (.bool (nameF ((bytesOf s).take W))) ∧ Below w.heap.size w w')))
  clear hst hnm hone hres htw hW
  go_enter Tryd.func111, Tryd.ntmps111
  go_wp2_with fail
  go_loopw [5] (fun i wr => ∃ k : Nat, k ≤ W ∧ i = .int .i64 k ∧ Aside0 (Below w.heap.size w wr)) (fun i _ => s.size - (intOf i).toNat)
  case atStart => exact ⟨0, by omega, rfl, ⟨Below.refl _ _⟩⟩
  case round =>
    obtain ⟨k, hk, rfl, HB⟩ := hrel
    have hkc : k < W ∨ k = W := by omega
    rcases hkc with hkW | rfl
    · have hlt : k < s.size := by omega
      have hsl := slice_one s k hlt
      go_wp2_with (go_at_call 103; refine (HUP.out k hlt hkW _).mono ?_; rintro e w' ⟨rfl, hb⟩)
      go_roundw
      case rel => exact ⟨k + 1, by omega, by go_num, ⟨below_step HB.out hb⟩⟩
      case measure => simp [intOf]; omega
    · by_cases hlt : k < s.size
      · have hsl := slice_one s k hlt
        go_wp2_with (go_at_call 103; refine (HST.out hlt _).mono ?_; rintro e w1 ⟨rfl, hb1⟩)
        have HB1 := Aside0.mk (below_step HB.out hb1)
        go_region_with (go_at_call 103; refine (HNM.out _).mono ?_; rintro e w2 ⟨rfl, hb2⟩)
        go_wp2
        go_ret3
        exact ⟨by rw [HRES.out]; rfl, below_step HB1.out.drew hb2⟩
      · go_wp2_with fail
        go_region_with (go_at_call 103; refine (HNM.out _).mono ?_; rintro e w2 ⟨rfl, hb2⟩)
        go_wp2
        go_ret3
        exact ⟨by rw [HRES.out]; rfl, below_step HB.out.drew hb2⟩
end Go.Proofs.YtllgfccckcgekaaDoor
