/- Lists of steps; what path.first computes. Conditions: texts of at most 1000000 bytes. -/
import Derived.Test.YtllgfccckcgekaaDoorPathStep
namespace Go.Proofs.YtllgfccckcgekaaDoor
set_option maxRecDepth 100000
set_option maxHeartbeats 4000000
open Go.RowKit Go.Proofs.YtllgfccckcgekaaDoorW.PrintWords Go.Proofs.YtllgfccckcgekaaDoorW.PrintLast Go.Proofs.YtllgfccckcgekaaDoorW.PrintMore

def kStp : Kd Stp := Kd.iso (Kd.pair (Kd.int .i64) (Kd.pair Kd.string (Kd.int .i64))) (fun x => (x.kind, strOfNums x.name, x.n))
def Stp.cells (x : Stp) : List Value := [.int .i64 x.kind, .string (strOfNums x.name), .int .i64 x.n]
theorem kStp_K {w : World} {x : Stp} {cs : List Value} : kStp.K w x cs ↔ cs = x.cells := by
  constructor
  · rintro ⟨c0, c1, rfl, h0, c2, c3, rfl, h2, h3⟩
    obtain rfl : c0 = [.int .i64 x.kind] := h0
    obtain rfl : c2 = [.string (strOfNums x.name)] := h2
    obtain rfl : c3 = [.int .i64 x.n] := h3
    rfl
  · rintro rfl
    exact ⟨[_], _, rfl, rfl, [_], _, rfl, rfl, rfl⟩
theorem kStp_M {w : World} {base : Nat} {ok : Nat → Prop} {x : Stp} {cs : List Value} : kStp.M w base ok x cs ↔ cs = x.cells := by
  constructor
  · rintro ⟨c0, c1, rfl, h0, c2, c3, rfl, h2, h3⟩
    obtain rfl : c0 = [.int .i64 x.kind] := h0
    obtain rfl : c2 = [.string (strOfNums x.name)] := h2
    obtain rfl : c3 = [.int .i64 x.n] := h3
    rfl
  · rintro rfl
    exact ⟨[_], _, rfl, rfl, [_], _, rfl, rfl, rfl⟩
theorem kStp_one (w : World) (x : Stp) (base : Nat) (hb : base ≤ w.heap.size) : kStp.R 27 (w.alloc (.cells #[.int .i64 x.kind, .string (strOfNums x.name), .int .i64 x.n] 27)) base (fun _ => True) (.slice (some ⟨w.heap.size, 0, none⟩) 1 1) [x] := by
  refine ⟨fun _ _ => trivial, x.cells, ?_, ?_⟩
  · exact World.ownsRow_lit (base := base) (e := 27) (size := 3) w x.cells.toArray 1 hb (by decide) (by simp [Stp.cells])
  · refine ⟨rfl, fun j p hj => ?_⟩
    cases j with
    | zero => simp at hj; subst hj; exact kStp_M.2 rfl
    | succ j => simp at hj
def FirstPost (xs : List Int) (w : World) (e : Ending) (w' : World) : Prop := match firstF xs with
  | some (o, r) => ∃ v, e = .returned (.tuple #[v, .string (strOfNums r), .bool true]) ∧ kStp.R 27 w' w.heap.size (fun _ => True) v o
  | none => ∃ v l, e = .returned (.tuple #[v, l, .bool false])
theorem first_calls (s : ByteArray) (w : World) (hs : s.size ≤ 1000000) : Calls Tryd.prog 71 #[.string s] w fun e w' => FirstPost (bytesOf s) w e w' ∧ Below w.heap.size w w' := by
  have hby := bytesOf_byt s
  have hln := bytesOf_length s
  by_cases h64 : ∃ t, bytesOf s = 64 :: t
  · obtain ⟨t, hx⟩ := h64
    rw [hx] at hby hln
    have bt : Byt t := fun y hy => hby y (by simp [hy])
    have tl : t.length ≤ 999999 := by simp at hln; omega
    have C1 := Aside0.mk (cut1_yes s 64 t hx)
    by_cases h42 : ∃ u, t = 42 :: u
    · obtain ⟨u, rfl⟩ := h42
      have C2 := Aside0.mk (cut1_yes (strOfNums (42 :: u)) 42 u (bz_str bt))
      have HP : Aside0 (firstF (bytesOf s) = some ([⟨1, [], -1⟩], u)) := ⟨by rw [hx]; rfl⟩
      clear hx hby hln
      go_enter Tryd.func71, Tryd.ntmps71
      go_wp2_with fail
      refine (C1.out _).mono ?_
      rintro e w1 ⟨rfl, rfl⟩
      go_wp2_with fail
      refine (C2.out _).mono ?_
      rintro e w1 ⟨rfl, rfl⟩
      go_wp2
      go_ret3
      refine ⟨?_, below_alloc (Below.refl _ _) _⟩
      unfold FirstPost
      rw [HP.out]
      exact ⟨_, rfl, kStp_one w ⟨1, [], -1⟩ w.heap.size (Nat.le_refl _)⟩
    · have C2 := Aside0.mk (cut1_no (strOfNums t) 42 (by intro u h; rw [bz_str bt] at h; exact h42 ⟨u, h⟩))
      have hnum := fun w => number_calls (strOfNums t) w (by rw [size_str]; omega)
      rw [bz_str bt] at hnum
      have hf : firstF (bytesOf s) = (numberF t).map fun r => ([⟨1, [], r.1⟩], r.2) := by
        rw [hx]
        cases t with
        | nil => rfl
        | cons a u =>
          have : a ≠ 42 := by rintro rfl; exact h42 ⟨u, rfl⟩
          unfold firstF
          split
          · rename_i h; simp at h; exact absurd h.1 this
          · rename_i h; simp at h; subst h; rfl
          · rename_i h1 h2; exact absurd rfl (h2 _)
      cases hn : numberF t with
      | none =>
        rw [hn] at hnum hf
        have HN := Aside0.mk hnum
        have HP := Aside0.mk hf
        clear hx hby hln hnum hf hn h42
        unfold strRet3 at HN
        go_enter Tryd.func71, Tryd.ntmps71
        go_wp2_with fail
        refine (C1.out _).mono ?_
        rintro e w1 ⟨rfl, rfl⟩
        go_wp2_with fail
        refine (C2.out _).mono ?_
        rintro e w1 ⟨rfl, rfl⟩
        go_wp2_with fail
        refine (HN.out _).mono ?_
        rintro e w1 ⟨rfl, hb1⟩
        go_wp2
        go_ret3
        refine ⟨?_, below_step hb1 (below_alloc (Below.refl _ _) _)⟩
        unfold FirstPost
        rw [HP.out]
        exact ⟨_, _, rfl⟩
      | some vr =>
        obtain ⟨v, r⟩ := vr
        rw [hn] at hnum hf
        have HN := Aside0.mk hnum
        have HP := Aside0.mk hf
        clear hx hby hln hnum hf hn h42
        unfold strRet3 at HN
        go_enter Tryd.func71, Tryd.ntmps71
        go_wp2_with fail
        refine (C1.out _).mono ?_
        rintro e w1 ⟨rfl, rfl⟩
        go_wp2_with fail
        refine (C2.out _).mono ?_
        rintro e w1 ⟨rfl, rfl⟩
        go_wp2_with fail
        refine (HN.out _).mono ?_
        rintro e w1 ⟨rfl, hb1⟩
        go_wp2
        go_ret3
        refine ⟨?_, below_step hb1 (below_alloc (Below.refl _ _) _)⟩
        unfold FirstPost
        rw [HP.out]
        exact ⟨_, rfl, kStp_one w1 ⟨1, [], v⟩ w.heap.size hb1.size⟩
  · have C1 := Aside0.mk (cut1_no s 64 (by intro t h; exact h64 ⟨t, h⟩))
    have HP : Aside0 (firstF (bytesOf s) = some ([], bytesOf s)) := ⟨by
      unfold firstF
      split
      · rename_i h; exact absurd ⟨_, h⟩ h64
      · rename_i h; exact absurd ⟨_, h⟩ h64
      · rfl⟩
    clear hby hln h64
    go_enter Tryd.func71, Tryd.ntmps71
    go_wp2_with fail
    refine (C1.out _).mono ?_
    rintro e w1 ⟨rfl, rfl⟩
    go_wp2
    go_ret3
    refine ⟨?_, Below.refl _ _⟩
    unfold FirstPost
    rw [HP.out]
    exact ⟨_, by rw [strOfNums_bytesOf]; rfl, Kd.R_nil _ _ _ _ _⟩
end Go.Proofs.YtllgfccckcgekaaDoor
