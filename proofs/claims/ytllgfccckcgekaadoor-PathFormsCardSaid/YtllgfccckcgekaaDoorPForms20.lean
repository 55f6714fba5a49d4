/- The walk of PathForms: it answers true. No condition. -/
import Derived.Test.YtllgfccckcgekaaDoorMapSteps
import Derived.Test.YtllgfccckcgekaaDoorWakes20
namespace Go.Proofs.YtllgfccckcgekaaDoor
set_option maxRecDepth 100000
set_option maxHeartbeats 8000000
open Go.RowKit Go.Proofs.YtllgfccckcgekaaDoorW.PrintWords Go.Proofs.YtllgfccckcgekaaDoorW.PrintLast Go.Proofs.YtllgfccckcgekaaDoorW.PrintMore

/-- The forty-one entries. -/
def lits41 (a : ByteArray) : List (ByteArray × Int) := [(⟨#[]⟩, 0), (⟨#[46]⟩ ++ a, 1), (⟨#[64, 48]⟩, 1), (⟨#[64, 42]⟩, 1), (⟨#[64, 49, 50, 46]⟩ ++ a, 2), (⟨#[46]⟩ ++ a ++ ⟨#[91, 48, 93, 46, 98]⟩, 3), (⟨#[46, 46]⟩, 1), (⟨#[46, 46, 46]⟩, 0), (⟨#[46, 46, 46]⟩ ++ a, 2), (⟨#[46, 42]⟩, 1), (⟨#[46, 42, 46, 42]⟩, 2), (⟨#[91, 48, 93, 91, 49, 93]⟩, 2), (⟨#[46, 34]⟩ ++ a ++ ⟨#[32, 98, 34]⟩, 1), (⟨#[46, 34, 34]⟩, 1), (⟨#[46, 97, 45, 98, 95, 99]⟩, 1), (⟨#[46, 46, 46, 46]⟩, 2), (⟨#[64, 42, 46, 46]⟩, 2), (⟨#[46, 49]⟩, 1), (⟨#[91, 57, 57, 57, 57, 57, 57, 93]⟩, 1), (⟨#[46]⟩ ++ a ++ ⟨#[42]⟩, 0), (⟨#[64]⟩, 0), (⟨#[64]⟩ ++ a, 0), (⟨#[64, 48, 49]⟩, 0), (⟨#[64, 49, 48, 48, 48, 48, 48, 48]⟩, 0), (a, 0), (⟨#[46]⟩, 0), (⟨#[91]⟩, 0), (⟨#[91, 93]⟩, 0), (⟨#[91]⟩ ++ a ++ ⟨#[93]⟩, 0), (⟨#[91, 48, 49, 93]⟩, 0), (⟨#[91, 45, 49, 93]⟩, 0), (⟨#[91, 49]⟩, 0), (⟨#[91, 49, 48, 48, 48, 48, 48, 48, 93]⟩, 0), (⟨#[46, 32]⟩ ++ a, 0), (⟨#[46]⟩ ++ a ++ ⟨#[32]⟩, 0), (⟨#[46, 34]⟩ ++ a, 0), (⟨#[46, 39]⟩ ++ a ++ ⟨#[39]⟩, 0), (⟨#[42]⟩, 0), (⟨#[46, 46]⟩ ++ a, 0), (⟨#[46]⟩ ++ a ++ ⟨#[64, 49]⟩, 0), (⟨#[64, 49, 64, 50]⟩, 0)]
def lits41v (B : Nat) (a : ByteArray) : List Value := [.map (some B), undef, .string a, .string (⟨#[46]⟩ ++ a), undef, undef, undef, .string a, .string (⟨#[64, 49, 50, 46]⟩ ++ a), undef, .string a, .string (⟨#[46]⟩ ++ a), .string (⟨#[46]⟩ ++ a ++ ⟨#[91, 48, 93, 46, 98]⟩), undef, undef, undef, .string a, .string (⟨#[46, 46, 46]⟩ ++ a), undef, undef, undef, undef, .string a, .string (⟨#[46, 34]⟩ ++ a), .string (⟨#[46, 34]⟩ ++ a ++ ⟨#[32, 98, 34]⟩), undef, undef, undef, undef, undef, undef, undef, .string a, .string (⟨#[46]⟩ ++ a), .string (⟨#[46]⟩ ++ a ++ ⟨#[42]⟩), undef, undef, .string a, .string (⟨#[64]⟩ ++ a), undef, undef, undef, .string a, undef, undef, undef, undef, .string a, .string (⟨#[91]⟩ ++ a), .string (⟨#[91]⟩ ++ a ++ ⟨#[93]⟩), undef, undef, undef, undef, undef, .string a, .string (⟨#[46, 32]⟩ ++ a), undef, .string a, .string (⟨#[46]⟩ ++ a), .string (⟨#[46]⟩ ++ a ++ ⟨#[32]⟩), undef, .string a, .string (⟨#[46, 34]⟩ ++ a), undef, .string a, .string (⟨#[46, 39]⟩ ++ a), .string (⟨#[46, 39]⟩ ++ a ++ ⟨#[39]⟩), undef, undef, .string a, .string (⟨#[46, 46]⟩ ++ a), undef, .string a, .string (⟨#[46]⟩ ++ a), .string (⟨#[46]⟩ ++ a ++ ⟨#[64, 49]⟩), undef, undef, .map (some B), .pointer (some ⟨B + 1, 0, none⟩)]

def chk41 (xs : List Int) (v : Int) : Bool :=
  (((parseF xs).2 == 0 && v == ((parseF xs).1.length : Int) && (decide (0 < (parseF xs).1.length) || xs.isEmpty)) || ((parseF xs).2 == 6 && v == 0 && !xs.isEmpty && (parseF xs).1.isEmpty)) && decide (xs.length ≤ 20)
theorem lits41_ok {a : ByteArray} {c : Int} (hc : c ∈ letters8) (ha : bytesOf a = [c]) : ∀ p ∈ lits41 a, chk41 (bytesOf p.1) p.2 = true := by
  intro p hp
  simp only [lits41, List.mem_cons, List.not_mem_nil, or_false] at hp
  rcases hp with rfl | rfl | rfl | rfl | rfl | rfl | rfl | rfl | rfl | rfl | rfl | rfl | rfl | rfl | rfl | rfl | rfl | rfl | rfl | rfl | rfl | rfl | rfl | rfl | rfl | rfl | rfl | rfl | rfl | rfl | rfl | rfl | rfl | rfl | rfl | rfl | rfl | rfl | rfl | rfl | rfl <;> first | (simp only [bytesOf_append, ha]; clear ha; revert c; decide +kernel) | decide +kernel
theorem lits41_at {a : ByteArray} {c : Int} (hc : c ∈ letters8) (ha : bytesOf a = [c]) (s : ByteArray) (v : Int) (h : (s, v) ∈ lits41 a) :
    s.size ≤ 20 ∧ ((∃ l, parseF (bytesOf s) = (l, 0) ∧ v = (l.length : Int) ∧ (0 < l.length ∨ bytesOf s = [])) ∨ (parseF (bytesOf s) = ([], 6) ∧ v = 0 ∧ bytesOf s ≠ [])) := by
  have h1 := lits41_ok hc ha _ h
  unfold chk41 at h1
  simp only [Bool.and_eq_true, Bool.or_eq_true, beq_iff_eq, decide_eq_true_eq, Bool.not_eq_true', List.isEmpty_iff] at h1
  rw [bytesOf_length] at h1
  obtain ⟨h1, h2⟩ := h1
  refine ⟨h2, ?_⟩
  rcases h1 with ⟨⟨h3, h4⟩, h5⟩ | ⟨⟨⟨h3, h4⟩, h5⟩, h6⟩
  · exact .inl ⟨_, Prod.ext rfl h3, h4, h5⟩
  · exact .inr ⟨Prod.ext h6 h3, h4, fun e => by rw [e] at h5; cases h5⟩
theorem kStp_len0' {w : World} {base : Nat} {ok : Nat → Prop} {v : Value} (h : kStp.R 27 w base ok v []) : ∃ A c, v = .slice A 0 c := by
  obtain ⟨A, c, e, _⟩ := Kd.R_reads h
  exact ⟨A, c, e⟩
theorem walk_pathForms (a0 : Int) (hv : -9223372036854775808 ≤ a0 ∧ a0 ≤ 9223372036854775807) (w : World) :
    Calls Tryd.prog 15 #[.int .i64 a0] w fun e w' => e = .returned (.bool true) ∧ Below w.heap.size w w' := by
  obtain ⟨j, hj⟩ := Int.eq_ofNat_of_zero_le (Int.emod_nonneg a0 (show (8 : Int) ≠ 0 by omega))
  have hj8 : j < 8 := by have := Int.emod_lt_of_pos a0 (show (0 : Int) < 8 by omega); omega
  obtain ⟨X, la, hX, hla, c, hc, hlc⟩ := letter_cut j hj8
  have HJ := Aside0.mk hj
  have HC := Aside0.mk hc
  have HLC := Aside0.mk hlc
  have HV := Aside0.mk hv
  have hls : la.size = 1 := by rw [← bytesOf_length, hlc]; rfl
  clear hj hc hlc hv
  go_enter Tryd.func15, Tryd.ntmps15
  go_wp2_with (go_at_call 23; refine (Within_calls a0 8 _ (by omega) (by omega) HV.out).mono ?_; rw [HJ.out]; rintro e w' ⟨rfl, rfl⟩)
  refine wp_region_any rfl ?_
  refine wpAny_lit (P := Tryd.prog) _ ?fin (lits41v w.heap.size la) _ (lits41 la) 59 9 3 (Maps.string_keyed Tryd.underlying9) Tryd.underlying59 Tryd.underlying3 Tryd.underlying9 (by decide +kernel) (by decide +kernel) ?hfin (by decide) ?steps ?hend
  case hfin =>
    simp only [doneAct, putAll, lits41v, List.append_eq, List.cons_append, List.nil_append, List.map_cons, List.map_nil, List.zip_cons_cons, List.zip_nil_left, List.foldl_cons, List.foldl_nil, Act.put, List.setIfInBounds_toArray, List.set_cons_succ, List.set_cons_zero]
    exact rfl
  case steps =>
    refine AllSteps.cons (step_mk rfl) ?_
    repeat refine AllSteps.cons (by
      first
      | exact step_pure (by decide) (by decide) (fun w => rfl)
      | exact step_pure (by decide) (by decide) (run_add rfl rfl rfl (by simp only [ByteArray.size_append', ByteArray.size_mk', hls, List.size_toArray, List.length_cons, List.length_nil] <;> omega))
      | exact step_ins (by decide) (by decide) rfl rfl rfl rfl rfl (by decide +kernel) (by simp [lits41]) (by simp only [ByteArray.size_append', ByteArray.size_mk', hls, List.size_toArray, List.length_cons, List.length_nil, maxLen] <;> omega) rfl
      | exact step_rng (by decide) rfl rfl rfl (by decide +kernel)) ?_
    exact AllSteps.nil
  case hend =>
    intro w3 n D cnt hr hS hb
    have hlit : LitLoop Tryd.prog 9 3 w.heap.size (w.heap.size + 1) (lits41 la) w w3 := LitLoop.start hr hS ⟨hb.os, hb.tape, hb.output, hb.size, hb.block⟩
    have HL0 := Aside0.mk hlit
    clear hr hS hb hlit
    go_wp2_with fail
    go_loopw [4, 5, 6, 7] (fun _ _ _ _ wl => Aside0 (LitLoop Tryd.prog 9 3 w.heap.size (w.heap.size + 1) (lits41 la) w wl)) (fun _ _ _ _ wl => wl.rangeLeft w.heap.size (w.heap.size + 1))
    case atStart => exact HL0
    case round =>
      go_wp2_with (first
        | (at_next; refine wpList_next_lit _ rfl _ rfl 9 3 (Maps.string_keyed Tryd.underlying9) Tryd.underlying9 Tryd.underlying3 w.heap.size (w.heap.size + 1) (lits41 la) w (by omega) rfl hrel.out ?_ ?_))
      · refine (wakes20_calls wr).mono ?_
        rintro e w' ⟨rfl, hbw⟩
        go_wp2
        go_ret
        obtain ⟨_, _, _, _, _, _, _, hbm⟩ := hrel.out
        exact ⟨rfl, below_step hbm hbw⟩
      · intro s c w1 hE hL1 hlt hen
        obtain ⟨hss, hcase⟩ := lits41_at HC.out HLC.out s c hE
        have HL1 := Aside0.mk hL1
        have HLT := Aside0.mk hlt
        clear hL1 hlt hE hrel HL0
        have hpc := Parse_calls s w1 (by omega)
        unfold ParsePost at hpc
        rcases hcase with ⟨l, hp, rfl, h0⟩ | ⟨hp, rfl, hne⟩
        · rw [hp] at hpc
          have HPC := Aside0.mk hpc
          have hl0 : bytesOf s = [] → l = [] := fun h => by
            rw [h] at hp
            have : parseF [] = ([], 0) := rfl
            rw [this] at hp
            simpa using hp.symm
          clear hpc hp
          rcases h0 with h0 | h0
          · clear hl0
            by_cases hse : s.toList.isEmpty = true
            all_goals
              first
                | have hsf : s.toList.isEmpty = true := hse
                | have hsf : s.toList.isEmpty = false := by simpa using hse
              clear hse
              go_wp2_with fail
              refine HPC.out.mono ?_
              rintro e w2 ⟨⟨v, rfl, hR⟩, hb2⟩
              obtain ⟨A, cc, rfl, -, -⟩ := Kd.R_reads hR
              obtain ⟨hL2, hLq⟩ := HL1.out.below hb2
              go_wp2_with fail
              go_roundw
              case rel => exact ⟨hL2⟩
              case measure => rw [hLq]; exact HLT.out
          · have hsf : s.toList.isEmpty = true := by rw [isEmpty_toList, h0]; rfl
            obtain rfl := hl0 h0
            clear h0 hl0
            simp only [List.length_nil, Int.natCast_zero] at hen ⊢
            go_wp2_with fail
            refine HPC.out.mono ?_
            rintro e w2 ⟨⟨v, rfl, hR⟩, hb2⟩
            obtain ⟨A, cc, rfl⟩ := kStp_len0' hR
            obtain ⟨hL2, hLq⟩ := HL1.out.below hb2
            go_wp2_with fail
            go_roundw
            case rel => exact ⟨hL2⟩
            case measure => rw [hLq]; exact HLT.out
        · rw [hp] at hpc
          have HPC := Aside0.mk hpc
          have hs0 : s.toList.isEmpty = false := by rw [isEmpty_toList]; cases h : bytesOf s with | nil => exact absurd h hne | cons _ _ => rfl
          clear hpc hp hne
          go_wp2_with fail
          refine HPC.out.mono ?_
          rintro e w2 ⟨⟨v, rfl, hR⟩, hb2⟩
          obtain ⟨A, cc, rfl⟩ := kStp_len0' hR
          obtain ⟨hL2, hLq⟩ := HL1.out.below hb2
          go_wp2_with fail
          go_roundw
          case rel => exact ⟨hL2⟩
          case measure => rw [hLq]; exact HLT.out
end Go.Proofs.YtllgfccckcgekaaDoor
