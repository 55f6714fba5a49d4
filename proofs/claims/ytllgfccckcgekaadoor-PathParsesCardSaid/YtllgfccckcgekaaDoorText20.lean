/- scholiumlaw20.Text returns a text of at most 400 bytes. Conditions: the numbers are ints. -/
import Derived.Test.YtllgfccckcgekaaDoorKeep
namespace Go.Proofs.YtllgfccckcgekaaDoor
set_option maxRecDepth 100000
set_option maxHeartbeats 4000000
open Go.RowKit Go.Proofs.YtllgfccckcgekaaDoorW.PrintWords Go.Proofs.YtllgfccckcgekaaDoorW.PrintLast Go.Proofs.YtllgfccckcgekaaDoorW.PrintMore

def I64 (x : Int) : Prop := -9223372036854775808 ≤ x ∧ x ≤ 9223372036854775807
def texts23 : List ByteArray := [⟨#[46, 97]⟩, ⟨#[46, 98]⟩, ⟨#[91, 48, 93]⟩, ⟨#[91, 49, 93]⟩, ⟨#[46, 42]⟩, ⟨#[46, 46]⟩, ⟨#[46, 34, 120, 32, 121, 34]⟩, ⟨#[46, 34, 97, 92, 110, 34]⟩, ⟨#[46, 99, 45, 100, 95, 49]⟩, ⟨#[91, 49, 50, 93]⟩, ⟨#[64]⟩, ⟨#[64, 42]⟩, ⟨#[64, 48]⟩, ⟨#[64, 49]⟩, ⟨#[46]⟩, ⟨#[91]⟩, ⟨#[93]⟩, ⟨#[91, 48, 49, 93]⟩, ⟨#[91, 45, 49, 93]⟩, ⟨#[42]⟩, ⟨#[97]⟩, ⟨#[34]⟩, ⟨#[91, 57, 57, 57, 57, 57, 57, 57, 93]⟩]
theorem texts23_at (k : Nat) (h : k < 23) : ∃ p, texts23[k]? = some p ∧ p.size ≤ 10 := by
  have hall : ∀ p ∈ texts23, p.size ≤ 10 := by decide
  have hl : k < texts23.length := h
  exact ⟨texts23[k], List.getElem?_eq_getElem hl, hall _ (List.getElem_mem hl)⟩
theorem Text20_calls (s : ByteArray) (A : Option Addr) (n c : Nat) (xs : List Int) (raw : Bool) (w : World) (hx : (Kd.int .i64).C w A n xs) (hi : ∀ x ∈ xs, I64 x) (hs : s.size ≤ 9223372036854775807) :
    Calls Tryd.prog 39 #[.string s, .slice A n c, .bool raw] w fun e w' => (∃ T : ByteArray, e = .returned (.string T) ∧ T.size ≤ 400) ∧ Below w.heap.size w w' := by
  have HX := Aside0.mk hx
  have HI := Aside0.mk hi
  have hl1 := hx.1
  have hl2 := hx.2.1
  clear hx hi
  cases raw with
  | true =>
    go_enter Tryd.func39, Tryd.ntmps39
    go_wp2_with (go_at_call 24; refine (Text_calls s 60 _ (by omega) hs).mono ?_; rintro e w1 ⟨rfl, hb⟩)
    go_ret
    refine ⟨⟨_, rfl, ?_⟩, hb⟩
    unfold textF
    simp
    omega
  | false =>
    go_enter Tryd.func39, Tryd.ntmps39
    go_wp2_with fail
    have hblk := blk_new w (.cells (texts23.map Value.string).toArray 9)
    go_loopw [9, 8, 10] (fun i t _ wr => ∃ (k : Nat) (T : ByteArray), k ≤ n ∧ k ≤ 40 ∧ i = .int .i64 k ∧ t = .string T ∧ T.size ≤ 10 * k ∧ Aside0 (wr.heap[w.heap.size]? = some (.cells (texts23.map Value.string).toArray 9 (0, 0))) ∧ Aside0 (Below w.heap.size w wr)) (fun i _ _ _ => n - (intOf i).toNat)
    case atStart => exact ⟨0, _, by omega, by omega, rfl, rfl, by decide, ⟨hblk⟩, ⟨below_alloc (Below.refl _ _) _⟩⟩
    case round =>
      obtain ⟨k, T, hk, hk40, rfl, rfl, hz, HM, HB⟩ := hrel
      clear hblk
      by_cases hlt : k < n
      · by_cases h40 : k < 40
        · obtain ⟨ad, rfl, hc⟩ := Kd.at_int (Kd.C_below HX.out HB.out) k (by omega) (by omega)
          rw [Int.toNat_natCast] at hc
          obtain ⟨x, hxe⟩ : ∃ x, rd xs k = x := ⟨_, rfl⟩
          rw [hxe] at hc
          have hxi : I64 x := HI.out x (by rw [← hxe]; simp only [rd, Int.toNat_natCast, List.getD_eq_getElem?_getD, List.getElem?_eq_getElem (show k < xs.length by omega), Option.getD_some]; exact List.getElem_mem _)
          have HXI := Aside0.mk hxi
          obtain ⟨q, hq⟩ := Int.eq_ofNat_of_zero_le (Int.emod_nonneg x (show (60 : Int) ≠ 0 by omega))
          have hq60 : q < 60 := by have := Int.emod_lt_of_pos x (show (0 : Int) < 60 by omega); omega
          have HQ := Aside0.mk hq
          clear hxe hxi hq
          by_cases h23 : q < 23
          · obtain ⟨p, hp, hpz⟩ := texts23_at q h23
            have hcell : wr.cell? ⟨w.heap.size, q, none⟩ = some (.string p) := by
              rw [blk_cell HM.out, List.getElem?_toArray, List.getElem?_map, hp]
              rfl
            clear hp
            go_wp2_with (go_at_call 23; refine (Within_calls x 60 _ (by omega) (by omega) HXI.out).mono ?_; rw [HQ.out]; rintro e w' ⟨rfl, rfl⟩)
            go_roundw
            case rel => exact ⟨k + 1, T ++ p, by omega, by omega, by go_num, rfl, by rw [ByteArray.size_append]; omega, HM, HB⟩
            case measure => simp [intOf]; omega
          · obtain ⟨r, hr⟩ := Int.eq_ofNat_of_zero_le (Int.emod_nonneg (q : Int) (show (10 : Int) ≠ 0 by omega))
            have hr10 : r < 10 := by have := Int.emod_lt_of_pos (q : Int) (show (0 : Int) < 10 by omega); omega
            obtain ⟨p, hp, hpz⟩ := texts23_at r (by omega)
            have hcell : wr.cell? ⟨w.heap.size, r, none⟩ = some (.string p) := by
              rw [blk_cell HM.out, List.getElem?_toArray, List.getElem?_map, hp]
              rfl
            clear hp
            go_wp2_with (go_at_call 23; refine (Within_calls x 60 _ (by omega) (by omega) HXI.out).mono ?_; rw [HQ.out]; rintro e w' ⟨rfl, rfl⟩)
            go_roundw
            case rel => exact ⟨k + 1, T ++ p, by omega, by omega, by go_num, rfl, by rw [ByteArray.size_append]; omega, HM, HB⟩
            case measure => simp [intOf]; omega
        · go_wp2
          go_ret
          exact ⟨⟨T, rfl, by omega⟩, HB.out⟩
      · go_wp2
        go_ret
        exact ⟨⟨T, rfl, by omega⟩, HB.out⟩
end Go.Proofs.YtllgfccckcgekaaDoor
