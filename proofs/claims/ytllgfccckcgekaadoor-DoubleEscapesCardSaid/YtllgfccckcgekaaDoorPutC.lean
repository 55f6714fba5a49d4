/- What double.Put computes. Conditions: utf8's two tables hold what their text lays; a text of at most 1000000 bytes. -/
import Derived.Test.YtllgfccckcgekaaDoorPutB
import Derived.Test.YtllgfccckcgekaaDoorBldW
import Derived.Test.YtllgfccckcgekaaDoorShV
namespace Go.Proofs.YtllgfccckcgekaaDoor
set_option maxRecDepth 100000
set_option maxHeartbeats 4000000
open Go.RowKit Go.Proofs.YtllgfccckcgekaaDoorW.PrintWords Go.Proofs.YtllgfccckcgekaaDoorW.PrintLast Go.Proofs.YtllgfccckcgekaaDoorW.PrintMore

/-- The runes of a text, from place pos on, as they are written. -/
def putFrom (s : ByteArray) : Nat → Nat → List Int
  | 0, _ => []
  | f + 1, pos => if pos < s.size then oneF (Utf8.decode s pos).1 ++ putFrom s f (pos + (Utf8.decode s pos).2) else []
def putF (s : ByteArray) : Option (List Int) := if Lib.validD s.data.toList then some (34 :: (putFrom s s.size 0 ++ [34])) else none
def putRet (o : Option (List Int)) : Value := match o with | some l => .tuple #[.string (strOfNums l), .bool true] | none => .tuple #[.string ⟨#[]⟩, .bool false]
theorem width_pos (s : ByteArray) (pos : Nat) (h : pos < s.size) : 1 ≤ (Utf8.decode s pos).2 := by
  by_cases ha : (s[pos]'h).toNat < 128
  · rw [decode_ascii s pos h ha]
    exact Nat.le_refl _
  · exact (decode_high s pos h (by omega)).2
theorem width_le (s : ByteArray) (pos : Nat) : (Utf8.decode s pos).2 ≤ 4 := by
  simp only [Utf8.decode]
  repeat' split
  all_goals simp
theorem putFrom_end (s : ByteArray) (f pos : Nat) (h : ¬ pos < s.size) : putFrom s f pos = [] := by
  cases f with
  | zero => rfl
  | succ f => simp [putFrom, h]
theorem hexS_len : ∀ d n, (hexS d n).length = d
  | 0, _ => rfl
  | d + 1, n => by simp [hexS, hexS_len d]
theorem oneF_len (r : Int) : (oneF r).length ≤ 10 := by
  unfold oneF
  split
  · simp
  · split
    · simp
    · split
      · have := Lib.encodeRuneZ_length r; omega
      · split
        · simp [hexS_len]
        · split <;> simp [hexS_len]
theorem decode_rune (s : ByteArray) (pos : Nat) : (Utf8.decode s pos).1 ≤ 1114111 := by
  have hb : ∀ k, (s.get! (pos + k)).toNat < 256 := fun k => (s.get! (pos + k)).toNat_lt
  have h0 := hb 0; have h1 := hb 1; have h2 := hb 2; have h3 := hb 3
  simp only [Utf8.decode, Utf8.runeError]
  split
  · show _ ≤ _; simp only; omega
  · split
    · split
      · show _ ≤ _; simp only; omega
      · decide
    · split
      · split
        · show _ ≤ _; simp only; omega
        · decide
      · split
        · split
          · rename_i h
            simp only [Bool.and_eq_true, validRune_eq, validRune, decide_eq_true_eq] at h
            simp only
            omega
          · decide
        · decide
def bytesU (l : List Int) : List UInt8 := (strOfNums l).data.toList
theorem bytesU_app (a b : List Int) : bytesU (a ++ b) = bytesU a ++ bytesU b := by simp [bytesU, strOfNums_data]
theorem bytesU_len (a : List Int) : (bytesU a).length = a.length := by simp [bytesU, strOfNums_data]
theorem bytesU_str (a : List Int) : (⟨(bytesU a).toArray⟩ : ByteArray) = strOfNums a := by
  unfold bytesU
  rw [Array.toArray_toList]
theorem bldAt_below {B b : Nat} {p : Value} {bs : List Value} {W W' : World} (h : Lib.BuilderAtF 151 5 B b p bs W) (hb : Below W.heap.size W W') : Lib.BuilderAtF 151 5 B b p bs W' := by
  have hlt := h.lt
  obtain ⟨hB, v, hbk, ⟨hl, hown⟩, hne⟩ := h
  refine ⟨hB, v, (hb.block b hlt).trans hbk, ⟨hl, ?_⟩, hne⟩
  rcases hown with hown | ⟨g, cap, cur, fz, hv, h1, h2, hrest⟩
  · exact .inl hown
  · have hg : g < W.heap.size := (Array.getElem?_eq_some_iff.1 h2).1
    exact .inr ⟨g, cap, cur, fz, hv, h1, (hb.block g hg).trans h2, hrest⟩
theorem bld_below {B b : Nat} {bs : List Value} {W W' : World} (h : Lib.IsBuilderF 151 5 B b bs W) (hb : Below W.heap.size W W') : Lib.IsBuilderF 151 5 B b bs W' := h.imp (bldAt_below · hb) (bldAt_below · hb)
theorem Put_calls (s : ByteArray) (w : World) (hs : s.size ≤ 1000000) (hT : Lib.Utf8Tabs 1 2 w) : Calls Tryd.prog 94 #[.string s] w fun e w' => e = .returned (putRet (putF s)) ∧ Below w.heap.size w w' := by
  have hv := Tryd.utf8_ValidString s w (by omega) hT
  clear hT
  cases hval : Lib.validD s.data.toList with
  | false =>
    rw [hval] at hv
    have HV := Aside0.mk hv
    have HP : Aside0 (putF s = none) := ⟨by unfold putF; rw [hval]; rfl⟩
    clear hv hval
    go_enter Tryd.func94, Tryd.ntmps94
    go_wp2_with (go_at_call 116; refine HV.out.mono ?_; rintro e w' ⟨rfl, hb⟩)
    go_ret2
    exact ⟨by rw [HP.out]; rfl, hb⟩
  | true =>
    rw [hval] at hv
    have HV := Aside0.mk hv
    have HP : Aside0 (putF s = some (34 :: (putFrom s s.size 0 ++ [34]))) := ⟨by unfold putF; rw [hval]; rfl⟩
    clear hv hval
    go_enter Tryd.func94, Tryd.ntmps94
    go_wp2_with (go_at_call 116; refine HV.out.mono ?_; rintro e w1 ⟨rfl, hb1⟩)
    have hI0 := Lib.IsBuilderF.of (Lib.fresh_isBuilder 151 5 w1)
    have hbA := below_alloc (Below.refl w1.heap.size w1) (.cells #[.pointer none, .slice none 0 0] 151)
    have HC := Aside0.mk (Tryd.WriteByte_k w1.heap.size w1.heap.size [] 34 _ hI0 (by simp) (by simp))
    have HB1 := Aside0.mk hb1
    have HBA := Aside0.mk hbA
    clear hI0 hbA hb1
    go_wp2_with (go_at_call 125; refine HC.out.mono ?_; rintro e w2 ⟨rfl, hI, hb2, hk2⟩)
    have HI2 := Aside0.mk hI
    have HB2 := Aside0.mk hb2
    have HK2 := Aside0.mk hk2
    clear hI hb2 hk2
    go_wp2_with fail
    go_loopw [6] (fun _ wr => ∃ (pos fuel : Nat) (acc : List Int), Aside0 (Lib.IsBuilderF 151 5 w1.heap.size w1.heap.size (Lib.byteCells (bytesU acc)) wr) ∧ wr.heap[w2.heap.size]? = some (.stringIter s pos) ∧ Aside0 (Below w1.heap.size w1 wr) ∧ Aside0 (acc ++ putFrom s fuel pos = 34 :: putFrom s s.size 0) ∧ s.size ≤ pos + fuel ∧ acc.length ≤ 10 * pos + 1 ∧ pos ≤ s.size + 3) (fun _ wr => s.size - wr.iterPos w2.heap.size)
    case atStart =>
      refine ⟨0, s.size, [34], ⟨Lib.IsBuilderF.alloc (Or.inr HI2.out) _⟩, World.iter_heap w2 s 0, ⟨?_⟩, ⟨rfl⟩, by omega, by simp, by omega⟩
      have h := HBA.out.trans HB2.out
      exact h.alloc h.size _
    case round =>
      obtain ⟨pos, fuel, acc, HI, hit, HB, HQ, hfu, hal, hpl⟩ := hrel
      have hw1 := HBA.out.size
      have hw2 : w1.heap.size < w2.heap.size := HI2.out.lt
      have hsz : w2.heap.size < wr.heap.size := (Array.getElem?_eq_some_iff.1 hit).1
      clear hw1
      by_cases hp : pos < s.size
      · have hnx : ∀ ty, (Instr.next (.pointer (some ⟨w2.heap.size, 0, none⟩)) true ty).run Tryd.prog wr = _ := fun ty => Lib.run_next_any_at wr w2.heap.size s pos ty hit hp
        have hwd := width_pos s pos hp
        have hwl := width_le s pos
        have hrn := decode_rune s pos
        have hI2 := HI.out.iterAt hit (pos + (Utf8.decode s pos).2)
        have hit2 := Lib.iterAt_heap wr w2.heap.size s pos (pos + (Utf8.decode s pos).2) hit
        have hbw2 := Lib.below_iterAt HB.out (k := w2.heap.size) (by omega) s (pos + (Utf8.decode s pos).2)
        obtain ⟨f, rfl⟩ : ∃ f, fuel = f + 1 := ⟨fuel - 1, by omega⟩
        have hq := HQ.out
        simp only [putFrom, if_pos hp] at hq
        have hol := oneF_len (Utf8.decode s pos).1
        have hone := fun w => one_calls ((Utf8.decode s pos).1 : Int) (by omega) (by omega) w
        obtain ⟨R, hR⟩ : ∃ R, ((Utf8.decode s pos).1 : Int) = R := ⟨_, rfl⟩
        obtain ⟨V, hV⟩ : ∃ V, strOfNums (oneF R) = V := ⟨_, rfl⟩
        rw [hR] at hone hol hq
        have hVs : V.size ≤ 10 := by rw [← hV, size_str]; exact hol
        have hVu : V.data.toList = bytesU (oneF R) := by rw [← hV]; rfl
        rw [hV] at hone
        have HONE := Aside0.mk hone
        have HQ2 := Aside0.mk hq
        have HVU := Aside0.mk hVu
        have HI2' := Aside0.mk hI2
        have HIT2 := Aside0.mk hit2
        have HBW2 := Aside0.mk hbw2
        have HOL := Aside0.mk hol
        have hsz2 : (wr.iterAt w2.heap.size s (pos + (Utf8.decode s pos).2)).heap.size = wr.heap.size := Lib.iterAt_size _ _ _ _
        have HSZ2 := Aside0.mk hsz2
        clear hone hq hVu hV hI2 hit2 hbw2 hol hsz2 HQ
        go_wp2_with (go_at_call 127; refine (HONE.out _).mono ?_; rintro e w3 ⟨rfl, hb3⟩; have HB3 := Aside0.mk hb3; clear hb3)
        have hI3 := bld_below HI2'.out HB3.out
        have hit3 := (HB3.out.block w2.heap.size (by rw [HSZ2.out]; exact hsz)).trans HIT2.out
        have hb3 := HBW2.out.trans (HB3.out.mono HBW2.out.size)
        have HWS := Aside0.mk (Tryd.WriteString_k w1.heap.size w1.heap.size _ V w3 hI3 (by rw [Lib.byteCells_length, bytesU_len]; omega) hb3.size)
        have HIT3 := Aside0.mk hit3
        have HB3' := Aside0.mk hb3
        clear hI3 hit3 hb3
        go_wp2_with (go_at_call 126; refine HWS.out.mono ?_; rintro e w4 ⟨rfl, hI, hb, hk⟩; have HI4 := Aside0.mk hI; have HB4 := Aside0.mk hb; have HK4 := Aside0.mk hk; clear hI hb hk)
        go_roundw
        case rel =>
          refine ⟨pos + (Utf8.decode s pos).2, f, acc ++ oneF R, ⟨?_⟩, HK4.out.iter HIT3.out (by omega), ⟨HB3'.out.trans HB4.out⟩, ⟨?_⟩, by omega, ?_, by omega⟩
          · rw [bytesU_app, Lib.byteCells_append, ← HVU.out, ← Lib.strCells_eq]
            exact Or.inr HI4.out
          · rw [List.append_assoc]; exact HQ2.out
          · rw [List.length_append]
            have := HOL.out
            omega
        case measure =>
          simp only [World.iterPos, HK4.out.iter HIT3.out (show w2.heap.size ≠ w1.heap.size by omega), hit]
          omega
      · have hnx : ∀ ty, (Instr.next (.pointer (some ⟨w2.heap.size, 0, none⟩)) true ty).run Tryd.prog wr = _ := fun ty => Lib.run_next_end_at wr w2.heap.size s pos ty hit hp
        have hq := HQ.out
        rw [putFrom_end s fuel pos hp, List.append_nil] at hq
        have HQ2 := Aside0.mk hq
        have HWB := Aside0.mk (Tryd.WriteByte_k w1.heap.size w1.heap.size _ 34 wr HI.out (by rw [Lib.byteCells_length, bytesU_len]; omega) HB.out.size)
        clear hq
        go_wp2_with (go_at_call 125; refine HWB.out.mono ?_; rintro e w4 ⟨rfl, hI, hb, hk⟩; have HI4 := Aside0.mk hI; have HB4 := Aside0.mk hb; clear hI hb hk)
        have hI5 : Lib.IsBuilderF 151 5 w1.heap.size w1.heap.size (Lib.byteCells (bytesU (acc ++ [34]))) w4 := by
          rw [bytesU_app, Lib.byteCells_append]
          exact Or.inr HI4.out
        have HS := Aside0.mk (Tryd.Builder_String_any_k w1.heap.size w1.heap.size (bytesU (acc ++ [34])) w4 hI5 (HB.out.trans HB4.out).size)
        clear hI5
        go_wp2_with (go_at_call 128; refine HS.out.mono ?_; rintro e w5 ⟨rfl, hI, hb, hk⟩; have HB5 := Aside0.mk hb; clear hI hb hk)
        go_ret2
        refine ⟨?_, below_step HB1.out ((HB.out.trans HB4.out).trans HB5.out)⟩
        rw [HP.out]
        unfold putRet
        simp only
        rw [show (34 :: (putFrom s s.size 0 ++ [34]) : List Int) = acc ++ [34] by rw [HQ2.out]; rfl, ← bytesU_str]
        rfl
end Go.Proofs.YtllgfccckcgekaaDoor
