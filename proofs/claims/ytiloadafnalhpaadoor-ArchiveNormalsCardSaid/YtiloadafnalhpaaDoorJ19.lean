/-
  The root alone in its one form; its archive.
  The walk of archive.Of at the root's archive.
-/
import Derived.Test.YtiloadafnalhpaaDoorJ12
import Derived.Test.YtiloadafnalhpaaDoorJ17
import Derived.Test.YtiloadafnalhpaaDoorJ18
import Derived.Deep.RegionWith
import Derived.Deep.DeepCutAuto
import Derived.Deep.CutBlock
namespace Go.Proofs.YtiloadafnalhpaaDoor
open Go.RowKit Go.Proofs.YtiloadafnalhpaaDoorW.PrintWords Go.Proofs.YtiloadafnalhpaaDoorW.PrintLast Go.Proofs.YtiloadafnalhpaaDoorW.PrintMore
open Go.Proofs.YtiloadafnalhpaaDoor.PA
set_option linter.unusedVariables false
set_option linter.unusedSimpArgs false

def rootN : Nd := ⟨⟨#[47]⟩, ⟨1, 0, 2, 1, 0⟩, ⟨#[]⟩⟩
theorem norm_root {x : Nd} (hp : x.f0 = ⟨#[47]⟩) (hk : x.f1.f2 = 2) (hd : x.f2 = ⟨#[]⟩) {er : Int} {r : List Nd} (h : NormR [x] er r) : er = 0 ∧ r = [rootN] := by
  have hm : mayN x = true := by
    unfold mayN pth dat kind
    rw [hp, hk, hd]; rfl
  have hpl : placedB [x] = true := by
    unfold placedB placedFrom placedAt
    simp [placedFrom, pth, hp, hk]
  have hin : inoB [x] = true := by simp [inoB, inoFrom, inoAt]
  have hr : relabel [x] = [rootN] := by
    simp [relabel, label, firstIx, links, kind, rootN, hp, hk, hd]
    rfl
  rcases h with ⟨rfl, rfl, hf⟩ | ⟨rfl, _, s, hps, _, _, _, rfl⟩
  · exfalso
    rcases hf with ⟨n, hn, e⟩ | ⟨_, s, hps, _, hf⟩
    · rw [List.mem_singleton.1 hn, hm] at e; cases e
    · have hs : s = [x] := List.perm_singleton.1 hps
      subst hs
      rw [hpl, hin] at hf
      rcases hf with hf | ⟨_, hf⟩ <;> cases hf
  · have hs : s = [x] := List.perm_singleton.1 hps
    subst hs
    exact ⟨rfl, hr⟩
/-- The root's archive, without its sum. -/
def rootS : ByteArray := ⟨#[65, 82, 67, 72, 1, 0, 0, 0, 2, 1, 47]⟩
theorem root_one : OneDir rootS ⟨#[47]⟩ where
  size := rfl
  small := by decide
  head := by decide
  count := by decide
  kind := by decide
  len := by decide
  path := by decide
theorem sumS_size (s : ByteArray) : (sumS s).size = 32 := by
  show (sumP s.data.toList).toArray.size = 32
  rw [List.size_toArray, sumP_length]
theorem good_root {x : Nd} (hp : x.f0 = ⟨#[47]⟩) (hd : x.f2 = ⟨#[]⟩) (hi : -9223372036854775808 ≤ x.f1.f0 ∧ x.f1.f0 ≤ 9223372036854775807) : ∀ n ∈ [x], GoodN n := by
  intro n hn
  rw [List.mem_singleton.1 hn]
  refine ⟨?_, ?_, hi⟩
  · rw [hp]; decide
  · rw [hd]; decide
end Go.Proofs.YtiloadafnalhpaaDoor
namespace Go.Proofs.YtiloadafnalhpaaDoor
open Go.RowKit Go.Proofs.YtiloadafnalhpaaDoorW.PrintWords Go.Proofs.YtiloadafnalhpaaDoorW.PrintLast Go.Proofs.YtiloadafnalhpaaDoorW.PrintMore
open Go.Proofs.YtiloadafnalhpaaDoor.PA
set_option linter.unusedVariables false
set_option linter.unusedSimpArgs false

set_option maxHeartbeats 1000000 in
set_option maxRecDepth 100000 in
theorem of_root (s : ByteArray) (w : World) (hsz : s.size = 43) (h1 : s.extract 0 11 = rootS) (h2 : s.extract 11 s.size = sumS rootS) (hM : MaxCell w) (hw0 : 0 < w.heap.size) :
    Calls Tryd.prog 19 #[.string s] w fun e w' => ∃ v, e = .returned (.tuple #[v, .int .i64 0]) ∧ Kd.R k33 33 w' w.heap.size (fun _ => True) v [rootN] ∧ Below w.heap.size w w' := by
  have HSU := Aside0.mk (fun W => sum_calls rootS W (by decide))
  have HRD := Aside0.mk (fun W => read_one rootS ⟨#[47]⟩ W root_one)
  have HM := Aside0.mk hM
  have H1 := Lib.hid h1
  have H2 := Lib.hid h2
  have hz : (s.size : Int) = 43 := by omega
  clear h1 h2 hM hsz
  go_enter Tryd.func19, Tryd.ntmps19
  go_upto_region 6 with (fail)
  go_cut [20] (fun v20 wc => v20 = .bool false ∧ Aside0 (Below w.heap.size w wc))
  case first =>
    have e1 : ∀ W, (Instr.slice 9 (.string s) none (some (.int .i64 11)) none).run Tryd.prog W = .ok (.string rootS) W := fun W => by
      rw [← H1.out]
      go_simp
    have e2 : ∀ W, (Instr.slice 9 (.string s) (some (.int .i64 11)) none none).run Tryd.prog W = .ok (.string (sumS rootS)) W := fun W => by
      rw [← H2.out]
      go_simp
    go_region_with (go_at_call 31; refine (HSU.out _).mono ?_; rintro e w2 ⟨rfl, hb⟩)
    go_wp2
    go_meet
    case rel => exact ⟨rfl, ⟨(Below.drew (Below.refl w.heap.size w)).trans hb⟩⟩
  case rest =>
    obtain ⟨rfl, HB⟩ := hcut
    have e1 : ∀ W, (Instr.slice 9 (.string s) none (some (.int .i64 11)) none).run Tryd.prog W = .ok (.string rootS) W := fun W => by
      rw [← H1.out]
      go_simp
    have HGD := Aside0.mk (good_root (x := dirN ⟨#[47]⟩) rfl rfl (by decide))
    go_wp2_with (first
      | (go_at_call 32; refine (HRD.out _).mono ?_; rintro e w3 ⟨v, rfl, ho3, hb3⟩; have HO3 := Aside0.mk ho3; have HB3 := Aside0.mk (HB.out.trans (hb3.mono HB.out.size)); obtain ⟨A, c, rfl, hc3, hr3⟩ := ho3.reads; have HR3 := Aside0.mk hr3; have HC3 := Aside0.mk hc3; have HM3 := Aside0.mk (HM.out.drop hw0 HB3.out); have HW3 := Aside0.mk (Nat.lt_of_lt_of_le hw0 HB3.out.size); clear ho3 hb3 hr3 hc3)
      | (go_at_call 5; refine (normal_calls A c [dirN ⟨#[47]⟩] w3 HR3.out HC3.out (by decide) HGD.out HM3.out HW3.out).mono ?_; rintro e w4 ⟨v4, er, r, rfl, hn4, hr4, hb4⟩; obtain ⟨rfl, rfl⟩ := norm_root rfl rfl rfl hn4; obtain ⟨A4, c4, rfl, _, hc4⟩ := Kd.R_reads hr4; have HK4 := Aside0.mk hr4; have HC4 := Aside0.mk hc4; have HB4 := Aside0.mk (HB3.out.trans (hb4.mono HB3.out.size)); have HCL := Aside0.mk (Kd.C_below HR3.out hb4); have HSZ4 := Aside0.mk hb4.size; clear hn4 hr4 hc4 hb4))
    go_loopw [48, 9, 8] (fun v48 v9 v8 wr => ∃ i : Nat, v48 = .int .i64 i ∧ i ≤ 1 ∧ Aside0 (Below w4.heap.size w4 wr)) (fun v48 _ _ _ => 1 - (intOf v48).toNat)
    case atStart => exact ⟨0, rfl, Nat.zero_le _, ⟨Below.refl _ _⟩⟩
    case round =>
      obtain ⟨i, rfl, hi, HBr⟩ := hrel
      by_cases h1 : i < 1
      · have hx0 : i = 0 := by omega
        have hx1 : [dirN ⟨#[47]⟩][i]? = some (dirN ⟨#[47]⟩) := by rw [hx0]; rfl
        have hx2 : [rootN][i]? = some rootN := by rw [hx0]; rfl
        clear hx0
        obtain ⟨ad, hA⟩ : ∃ ad, A = some ad := by obtain ⟨ad, e, _⟩ := HCL.out.2.2 (by decide); exact ⟨ad, e⟩
        obtain ⟨bd, hB⟩ : ∃ ad, A4 = some ad := by obtain ⟨ad, e, _⟩ := HC4.out.2.2 (by decide); exact ⟨ad, e⟩
        subst hA
        subst hB
        obtain ⟨p0, p1, p2, p3, p4, p5, p6⟩ := node_add (Kd.C_below HC4.out HBr.out) hx2
        have HX1 := Lib.hid hx1
        clear hx1 hx2
        simp only [rootN] at p0 p1 p2 p3 p4 p5 p6
        go_wp2
        obtain ⟨n0, n1, n2, n3, n4, n5, n6⟩ := node_add (Kd.C_alloc (Kd.C_below HCL.out HBr.out) (.cells #[.string ⟨#[47]⟩, .int .i64 1, .int .i64 0, .int .i64 2, .int .i64 1, .int .i64 0, .string ⟨#[]⟩] 33)) HX1.out
        simp only [dirN] at n0 n1
        have hbk := blk_new wr (.cells #[.string ⟨#[47]⟩, .int .i64 1, .int .i64 0, .int .i64 2, .int .i64 1, .int .i64 0, .string ⟨#[]⟩] 33)
        have d0 := blk_cell hbk 0
        have d1 := blk_cell hbk 1
        simp only [List.getElem?_toArray, List.getElem?_cons_zero, List.getElem?_cons_succ] at d0 d1
        have hB2 := HBr.out.alloc HBr.out.size (.cells #[.string ⟨#[47]⟩, .int .i64 1, .int .i64 0, .int .i64 2, .int .i64 1, .int .i64 0, .string ⟨#[]⟩] 33)
        clear hbk p0 p1 p2 p3 p4 p5 p6 n2 n3 n4 n5 n6
        revert n0 n1 d0 d1 hB2
        generalize wr.alloc (.cells #[.string ⟨#[47]⟩, .int .i64 1, .int .i64 0, .int .i64 2, .int .i64 1, .int .i64 0, .string ⟨#[]⟩] 33) = W2
        intro n0 n1 d0 d1 hB2
        have HB2 := Aside0.mk hB2
        clear hB2
        go_quiet (fail)
        go_wp2
        go_roundw
        case rel => exact ⟨i + 1, by go_num, by omega, ⟨pw_below_drewN HB2.out _⟩⟩
        case measure => simp [intOf]; omega
      · obtain rfl : i = 1 := by omega
        rw [show ((1 : Nat) : Int) = 1 from rfl]
        go_wp2
        go_ret2
        refine ⟨_, rfl, Kd.R_lower (Kd.R_below HK4.out HBr.out) HB3.out.size, HB4.out.trans (HBr.out.mono HB4.out.size)⟩
end Go.Proofs.YtiloadafnalhpaaDoor
