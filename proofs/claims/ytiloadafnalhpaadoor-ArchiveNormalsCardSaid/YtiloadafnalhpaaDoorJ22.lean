/-
  The walk of awake: the root alone is a tree.
-/
import Derived.Test.YtiloadafnalhpaaDoorJ21
namespace Go.Proofs.YtiloadafnalhpaaDoor
open Go.RowKit Go.Proofs.YtiloadafnalhpaaDoorW.PrintWords Go.Proofs.YtiloadafnalhpaaDoorW.PrintLast Go.Proofs.YtiloadafnalhpaaDoorW.PrintMore
open Go.Proofs.YtiloadafnalhpaaDoor.PA
set_option linter.unusedVariables false
set_option linter.unusedSimpArgs false

theorem own_of_R {w : World} {base : Nat} {ok : Nat → Prop} {v : Value} {ns : List Nd} (h : Kd.R k33 33 w base ok v ns) : OwnN w base v ns := by
  obtain ⟨_, inner, ho, hr⟩ := h
  have e : inner = flatN ns := reps_flat (fun x c hx => k33_openM hx) hr
  rw [e] at ho
  exact ho
theorem own_row {w : World} {base : Nat} {v : Value} {ns : List Nd} (h : OwnN w base v ns) (h0 : ns ≠ []) : ∃ g cap, v = .slice (some ⟨g, 0, none⟩) ns.length cap ∧ base ≤ g ∧ RowN w g cap ns := by
  rcases h.2 with ⟨_, e⟩ | ⟨g, cap, cur, rfl, e2, r⟩
  · exact absurd (List.length_eq_zero_iff.1 e) h0
  · exact ⟨g, cap, rfl, e2, RowN.of_own h rfl⟩
theorem row_root {w : World} {g cap : Nat} (h : RowN w g cap [rootN]) : w.cell? ⟨g, 0, none⟩ = some (.string ⟨#[47]⟩) ∧ w.cell? ⟨g, 1, none⟩ = some (.int .i64 1) ∧ w.cell? ⟨g, 2, none⟩ = some (.int .i64 0) ∧ w.cell? ⟨g, 3, none⟩ = some (.int .i64 2) ∧ w.cell? ⟨g, 4, none⟩ = some (.int .i64 1) ∧ w.cell? ⟨g, 5, none⟩ = some (.int .i64 0) ∧ w.cell? ⟨g, 6, none⟩ = some (.string ⟨#[]⟩) := by
  have c : ∀ j, j < 7 → w.cell? ⟨g, j, none⟩ = (encN rootN)[j]? := fun j hj => by have := h.cell 0 j rootN rfl hj; simpa using this
  exact ⟨c 0 (by omega), c 1 (by omega), c 2 (by omega), c 3 (by omega), c 4 (by omega), c 5 (by omega), c 6 (by omega)⟩
/-- The node that awake lays. -/
def seedN : Nd := ⟨⟨#[47]⟩, ⟨0, 0, 2, 0, 0⟩, ⟨#[]⟩⟩
theorem seed_row (w : World) : OwnN (w.alloc (.cells #[.string ⟨#[47]⟩, .int .i64 0, .int .i64 0, .int .i64 2, .int .i64 0, .int .i64 0, .string ⟨#[]⟩] 33)) w.heap.size (.slice (some ⟨w.heap.size, 0, none⟩) 1 1) [seedN] :=
  ⟨rfl, .inr ⟨w.heap.size, 1, _, rfl, Nat.le_refl _, blk_new _ _, by decide, by unfold maxLen; omega, rfl, rfl⟩⟩
theorem app_left (a b : ByteArray) : (a ++ b).extract 0 a.size = a := by
  apply ByteArray.ext
  simp
theorem app_right (a b : ByteArray) : (a ++ b).extract a.size (a ++ b).size = b := by
  apply ByteArray.ext
  simp
  have e1 : a.data.extract a.size (a.size + b.size) = #[] := Array.extract_empty_of_size_le_start (Nat.le_refl _)
  have e2 : b.data.extract 0 b.size = b.data := Array.extract_size
  rw [e1, e2]; simp
theorem root_text : (rootS ++ sumS rootS).size = 43 ∧ (rootS ++ sumS rootS).extract 0 11 = rootS ∧ (rootS ++ sumS rootS).extract 11 (rootS ++ sumS rootS).size = sumS rootS := by
  refine ⟨?_, app_left rootS (sumS rootS), app_right rootS (sumS rootS)⟩
  rw [ByteArray.size_append, sumS_size]; rfl
set_option maxHeartbeats 1000000 in
set_option maxRecDepth 100000 in
theorem awake_calls (w : World) (hM : MaxCell w) (hw0 : 0 < w.heap.size) :
    Calls Tryd.prog 8 #[] w fun e w' => e = .returned (.bool true) ∧ Below w.heap.size w w' := by
  obtain ⟨A0, c0, e0, hc0, hr0⟩ := (seed_row w).reads
  injection e0 with e1 e2 e3
  subst e1 e3
  have HN := Aside0.mk (normal_calls _ 1 [seedN] _ hr0 hc0 (by decide) (good_root rfl rfl (by decide)) (hM.drop hw0 ((Below.refl _ _).alloc (Nat.le_refl _) _)) (by simp))
  have HM := Aside0.mk hM
  clear e2 hc0 hr0 hM
  go_enter Tryd.func8, Tryd.ntmps8
  go_wp2_with (first
    | (go_at_call 5; refine HN.out.mono ?_; rintro e w1 ⟨v, er, r, rfl, hn, hr1, hb1⟩; obtain ⟨rfl, rfl⟩ := norm_root rfl rfl rfl hn; obtain ⟨A1, c1, hv1, hcc1, hc1⟩ := Kd.R_reads hr1; obtain ⟨g1, cap1, rfl, hg1, hrow1⟩ := own_row (own_of_R hr1) (by simp); injection hv1 with ha1 _ hb1c; subst ha1 hb1c; have HC1 := Aside0.mk hc1; have HCC1 := Aside0.mk hcc1; have HR1 := Aside0.mk hrow1; have HB1 := Aside0.mk ((((Below.refl w.heap.size w).alloc (Nat.le_refl _) _).trans (hb1.mono (by simp)))); have HM1 := Aside0.mk (HM.out.drop hw0 HB1.out); have HW1 := Aside0.mk (Nat.lt_of_lt_of_le hw0 HB1.out.size); clear hn hr1 hc1 hcc1 hrow1 hb1 hg1)
    | (go_at_call 18; refine (bytes_root _ cap1 w1 HC1.out HCC1.out HM1.out HW1.out).mono ?_; rintro e w2 ⟨rfl, hb2⟩; have HB2 := Aside0.mk (HB1.out.trans (hb2.mono HB1.out.size)); have HR2 := Aside0.mk (HR1.out.below hb2); have HM2 := Aside0.mk (HM.out.drop hw0 HB2.out); have HW2 := Aside0.mk (Nat.lt_of_lt_of_le hw0 HB2.out.size); clear hb2)
    | (go_at_call 19; refine (of_root _ w2 root_text.1 root_text.2.1 root_text.2.2 HM2.out HW2.out).mono ?_; rintro e w3 ⟨v, rfl, hr3, hb3⟩; obtain ⟨g3, cap3, rfl, hg3, hrow3⟩ := own_row (own_of_R hr3) (by simp); have HB3 := Aside0.mk (HB2.out.trans (hb3.mono HB2.out.size)); have hrow1 := HR2.out.below hb3; obtain ⟨m0, m1, m2, m3, m4, m5, m6⟩ := row_root hrow3; obtain ⟨l0, l1, l2, l3, l4, l5, l6⟩ := row_root hrow1; clear hr3 hrow3 hrow1 hb3 hg3))
  go_quiet (fail)
  go_wp2
  go_ret
  exact ⟨rfl, pw_below_drewN HB3.out _⟩
end Go.Proofs.YtiloadafnalhpaaDoor
