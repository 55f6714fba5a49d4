/- The walk of PathLong: it answers true. No condition. -/
import Derived.Test.YtllgfccckcgekaaDoorWakes20
import Derived.Test.YtllgfccckcgekaaDoorKeep
namespace Go.Proofs.YtllgfccckcgekaaDoor
set_option maxRecDepth 100000
set_option maxHeartbeats 4000000
open Go.RowKit Go.Proofs.YtllgfccckcgekaaDoorW.PrintWords Go.Proofs.YtllgfccckcgekaaDoorW.PrintLast Go.Proofs.YtllgfccckcgekaaDoorW.PrintMore

theorem str_ofB {s : ByteArray} {xs : List Int} (h : bytesOf s = xs) : s = strOfNums xs := by rw [← h, strOfNums_bytesOf]
theorem kStp_len0 {w : World} {base : Nat} {ok : Nat → Prop} {v : Value} (h : kStp.R 27 w base ok v []) : ∃ A c, v = .slice A 0 c := by
  obtain ⟨A, c, e, _⟩ := Kd.R_reads h
  exact ⟨A, c, e⟩
theorem walk_pathLong2 (M : Nat) (h1 : 126 ≤ M) (h2 : M ≤ 130) (S : ByteArray) (hS : bytesOf S = List.replicate M 32) (w : World) :
    Calls Tryd.prog 37 #[.string (⟨#[46, 34]⟩ ++ S ++ ⟨#[34]⟩)] w fun e w' => (if 128 < M then ∃ A c, e = .returned (.tuple #[.slice A 0 c, .int .i64 10]) else ∃ g c, e = .returned (.tuple #[.slice (some ⟨g, 0, none⟩) 1 c, .int .i64 0]) ∧ w'.cell? ⟨g, 1, none⟩ = some (.string S)) ∧ Below w.heap.size w w' := by
  have hb : bytesOf (⟨#[46, 34]⟩ ++ S ++ ⟨#[34]⟩) = 46 :: 34 :: (List.replicate M 32 ++ [34]) := by
    rw [bytesOf_append, bytesOf_append, hS]
    rfl
  have hz : (⟨#[46, 34]⟩ ++ S ++ ⟨#[34]⟩ : ByteArray).size ≤ 1000000 := by
    rw [← bytesOf_length, hb]
    simp
    omega
  refine (Parse_calls _ w hz).mono ?_
  rintro e w' ⟨⟨v, rfl, hR⟩, hbw⟩
  rw [hb, parse_key] at hR ⊢
  refine ⟨?_, hbw⟩
  by_cases h : 128 < M
  · rw [if_pos h] at hR ⊢
    rw [if_pos h]
    obtain ⟨A, c, rfl⟩ := kStp_len0 hR
    exact ⟨A, c, rfl⟩
  · rw [if_neg h] at hR ⊢
    rw [if_neg h]
    obtain ⟨g, c, rfl, -, -, hc⟩ := stps_flat hR (by simp)
    refine ⟨g, c, rfl, ?_⟩
    rw [(hc 0 _ rfl).2.1, str_ofB hS]
def docPre (b : Bool) : List Int := if b then [64, 51] else []
def docN (b : Bool) : Nat := if b then 1 else 0
theorem walk_pathLong1 (N : Nat) (b : Bool) (h2 : N ≤ 34) (S : ByteArray) (hS : bytesOf S = docPre b ++ aa N) (w : World) :
    Calls Tryd.prog 37 #[.string S] w fun e w' => (if 32 < N + docN b then ∃ A c, e = .returned (.tuple #[.slice A 0 c, .int .i64 10]) else ∃ A c, e = .returned (.tuple #[.slice A (N + docN b) c, .int .i64 0])) ∧ Below w.heap.size w w' := by
  have hz : S.size ≤ 1000000 := by
    rw [← bytesOf_length, hS]
    cases b <;> simp [docPre, aa_length] <;> omega
  obtain ⟨l, hl, hp⟩ := parse_long N b
  refine (Parse_calls _ w hz).mono ?_
  rintro e w' ⟨⟨v, rfl, hR⟩, hbw⟩
  rw [hS] at hR ⊢
  unfold docPre at hR ⊢
  rw [hp] at hR ⊢
  refine ⟨?_, hbw⟩
  unfold docN
  by_cases h : 32 < N + (if b = true then 1 else 0)
  · rw [if_pos h] at hR ⊢
    rw [if_pos h]
    obtain ⟨A, c, rfl⟩ := kStp_len0 hR
    exact ⟨A, c, rfl⟩
  · rw [if_neg h] at hR ⊢
    rw [if_neg h]
    obtain ⟨A, c, rfl, -⟩ := Kd.R_reads hR
    exact ⟨A, c, by rw [hl]⟩
theorem bytes_snoc {S : ByteArray} {xs : List Int} (h : bytesOf S = xs) (T : ByteArray) : bytesOf (S ++ T) = xs ++ bytesOf T := by rw [bytesOf_append, h]
theorem walk_pathLong (a0 a1 : Int) (a2 : Bool) (hv0 : -9223372036854775808 ≤ a0 ∧ a0 ≤ 9223372036854775807) (hv1 : -9223372036854775808 ≤ a1 ∧ a1 ≤ 9223372036854775807) (w : World) :
    Calls Tryd.prog 16 #[.int .i64 a0, .int .i64 a1, .bool a2] w fun e w' => e = .returned (.bool true) ∧ Below w.heap.size w w' := by
  obtain ⟨j, hj⟩ := Int.eq_ofNat_of_zero_le (Int.emod_nonneg a0 (show (5 : Int) ≠ 0 by omega))
  have hj5 : j < 5 := by have := Int.emod_lt_of_pos a0 (show (0 : Int) < 5 by omega); omega
  obtain ⟨q, hq⟩ := Int.eq_ofNat_of_zero_le (Int.emod_nonneg a1 (show (5 : Int) ≠ 0 by omega))
  have hq5 : q < 5 := by have := Int.emod_lt_of_pos a1 (show (0 : Int) < 5 by omega); omega
  have HJ := Aside0.mk hj
  have HQ := Aside0.mk hq
  have HV0 := Aside0.mk hv0
  have HV1 := Aside0.mk hv1
  obtain ⟨b2, hb2⟩ : ∃ b, b = a2 := ⟨_, rfl⟩
  have HB2 := Aside0.mk hb2
  clear hj hq hv0 hv1 hb2
  cases a2
  all_goals
    go_enter Tryd.func16, Tryd.ntmps16
    go_wp2_with (go_at_call 23; refine (Within_calls a0 5 _ (by omega) (by omega) HV0.out).mono ?_; rw [HJ.out]; rintro e w' ⟨rfl, rfl⟩)
    go_loop [8, 7] (fun i s => ∃ (k : Nat) (S : ByteArray), k ≤ 30 + j ∧ i = .int .i64 k ∧ s = .string S ∧ S.size ≤ 2 + 2 * k ∧ Aside0 (bytesOf S = docPre b2 ++ aa k)) (fun i _ => 30 + j - (intOf i).toNat)
    case atStart => exact ⟨0, _, by omega, rfl, rfl, by decide, ⟨by rw [HB2.out]; rfl⟩⟩
    case round =>
      obtain ⟨k, S, hk, rfl, rfl, hz, HS⟩ := hrel
      by_cases hlt : k < 30 + j
      · go_wp2
        go_round
        case rel => exact ⟨k + 1, S ++ ⟨#[46, 97]⟩, by omega, by go_num, rfl, by rw [ByteArray.size_append, show (⟨#[46, 97]⟩ : ByteArray).size = 2 from rfl]; omega, ⟨by rw [bytes_snoc HS.out, aa_snoc, List.append_assoc]; rfl⟩⟩
        case measure => simp [intOf]; omega
      · obtain rfl : k = 30 + j := by omega
        have hcall := walk_pathLong1 (30 + j) b2 (by omega) S HS.out w
        rw [HB2.out] at hcall
        simp only [docN, if_true, Bool.false_eq_true, if_false, Nat.add_zero] at hcall
        have HC := Aside0.mk hcall
        clear hcall hlt hk
        go_wp2_with fail
        refine HC.out.mono ?_
        rintro e w1 ⟨hp, hb1⟩
        have HBW := Aside0.mk hb1
        clear hb1
        split at hp
        all_goals
          obtain ⟨A, c, rfl⟩ := hp
          go_wp2_with (go_at_call 23; refine (Within_calls a1 5 _ (by omega) (by omega) HV1.out).mono ?_; rw [HQ.out]; rintro e w' ⟨rfl, rfl⟩)
          go_loop [13, 12] (fun i s => ∃ (k : Nat) (S : ByteArray), k ≤ 126 + q ∧ i = .int .i64 k ∧ s = .string S ∧ S.size ≤ k ∧ Aside0 (bytesOf S = List.replicate k 32)) (fun i _ => 126 + q - (intOf i).toNat)
          case atStart => exact ⟨0, _, by omega, rfl, rfl, by decide, ⟨rfl⟩⟩
          case round =>
            obtain ⟨k, T, hk, rfl, rfl, hz2, HT⟩ := hrel
            by_cases hlt : k < 126 + q
            · go_wp2
              go_round
              case rel => exact ⟨k + 1, T ++ ⟨#[32]⟩, by omega, by go_num, rfl, by rw [ByteArray.size_append, show (⟨#[32]⟩ : ByteArray).size = 1 from rfl]; omega, ⟨by rw [bytes_snoc HT.out, List.replicate_succ']; rfl⟩⟩
              case measure => simp [intOf]; omega
            · obtain rfl : k = 126 + q := by omega
              have HC2 := Aside0.mk (walk_pathLong2 (126 + q) (by omega) (by omega) T HT.out)
              clear hlt hk
              by_cases h128 : 128 < 126 + q
              · have HC3 := Aside0.mk (fun w => (HC2.out w).mono (fun e w' h => (by rw [if_pos h128] at h; exact h : (∃ A c, e = .returned (.tuple #[.slice A 0 c, .int .i64 10])) ∧ Below w.heap.size w w')))
                go_wp2_with (first | (go_at_call 37; refine (HC3.out _).mono ?_; rintro e w2 ⟨⟨A2, c2, rfl⟩, hb2⟩) | (go_at_call 22; refine (wakes20_calls _).mono ?_; rintro e w3 ⟨rfl, hb3⟩))
                go_ret
                exact ⟨rfl, below_step (below_step HBW.out hb2) hb3⟩
              · have HC3 := Aside0.mk (fun w => (HC2.out w).mono (fun e w' h => (by rw [if_neg h128] at h; exact h : (∃ g c, e = .returned (.tuple #[.slice (some ⟨g, 0, none⟩) 1 c, .int .i64 0]) ∧ w'.cell? ⟨g, 1, none⟩ = some (.string T)) ∧ Below w.heap.size w w')))
                go_wp2_with (first | (go_at_call 37; refine (HC3.out _).mono ?_; rintro e w2 ⟨⟨g, c2, rfl, hcell⟩, hb2⟩) | (go_at_call 22; refine (wakes20_calls _).mono ?_; rintro e w3 ⟨rfl, hb3⟩))
                go_ret
                exact ⟨rfl, below_step (below_step HBW.out hb2) hb3⟩
end Go.Proofs.YtllgfccckcgekaaDoor
