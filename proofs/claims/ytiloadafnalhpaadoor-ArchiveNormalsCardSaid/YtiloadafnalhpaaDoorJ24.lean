/-
  The walk of the reference's Same, at two rows of the same nodes.
  The walk of the law ArchiveNormals: whatever nodes come in, it answers true.
  The argument of the law ArchiveNormals opened: a row of nodes as it reads, and the bounds that its weights give.
-/
import Derived.Test.YtiloadafnalhpaaDoorJ9
import Derived.Test.YtiloadafnalhpaaDoorJ22
import Derived.Test.YtiloadafnalhpaaDoorJ23
import Derived.Test.YtiloadafnalhpaaDoorJ6
import Derived.ProofKit
import Derived.Deep.Slices
import Derived.SizedLaws
namespace Go.Proofs.YtiloadafnalhpaaDoor
open Go.RowKit Go.Proofs.YtiloadafnalhpaaDoorW.PrintWords Go.Proofs.YtiloadafnalhpaaDoorW.PrintLast Go.Proofs.YtiloadafnalhpaaDoorW.PrintMore
open Go.Proofs.YtiloadafnalhpaaDoor.PA
set_option linter.unusedVariables false
set_option linter.unusedSimpArgs false

set_option maxHeartbeats 16000000 in
set_option maxRecDepth 100000 in
theorem same_calls (A B : Option Addr) (c d : Nat) (l : List Nd) (w : World) (ha : Kd.C k33 w A l.length l) (hb : Kd.C k33 w B l.length l) (hl : l.length ≤ 1000000) :
    Calls Tryd.prog 7 #[.slice A l.length c, .slice B l.length d] w fun e w' => e = .returned (.bool true) ∧ ∃ n, w' = w.drewN n := by
  have HA := Aside0.mk ha
  have HB := Aside0.mk hb
  clear ha hb
  go_enter Tryd.func7, Tryd.ntmps7
  go_wp2
  go_loopw [5] (fun v5 wr => ∃ i : Nat, v5 = .int .i64 i ∧ i ≤ l.length ∧ Aside0 (∃ n, wr = w.drewN n)) (fun v5 _ => l.length - (intOf v5).toNat)
  case atStart => exact ⟨0, rfl, Nat.zero_le _, ⟨0, rfl⟩⟩
  case round =>
    obtain ⟨i, rfl, hi, HW⟩ := hrel
    obtain ⟨n, hw⟩ := HW.out
    subst hw
    by_cases h1 : i < l.length
    · obtain ⟨x, hx⟩ : ∃ x, l[i]? = some x := ⟨_, List.getElem?_eq_getElem h1⟩
      obtain ⟨ad, hA⟩ : ∃ ad, A = some ad := by obtain ⟨ad, e, _⟩ := HA.out.2.2 (by omega); exact ⟨ad, e⟩
      obtain ⟨bd, hB⟩ : ∃ ad, B = some ad := by obtain ⟨ad, e, _⟩ := HB.out.2.2 (by omega); exact ⟨ad, e⟩
      subst hA
      subst hB
      obtain ⟨n0, n1, n2, n3, n4, n5, n6⟩ := node_add HA.out hx
      obtain ⟨p0, p1, p2, p3, p4, p5, p6⟩ := node_add HB.out hx
      clear hx HW
      go_wp2
      go_quiet (fail)
      go_wp2
      go_roundw
      case rel => exact ⟨i + 1, by go_num, by omega, ⟨_, rfl⟩⟩
      case measure => simp [intOf]; omega
    · go_wp2
      go_ret
      exact ⟨rfl, _, rfl⟩
end Go.Proofs.YtiloadafnalhpaaDoor
namespace Go.Proofs.YtiloadafnalhpaaDoor
open Go.RowKit Go.Proofs.YtiloadafnalhpaaDoorW.PrintWords Go.Proofs.YtiloadafnalhpaaDoorW.PrintLast Go.Proofs.YtiloadafnalhpaaDoorW.PrintMore
open Go.Proofs.YtiloadafnalhpaaDoor.PA
set_option linter.unusedVariables false
set_option linter.unusedSimpArgs false

theorem norm_len {l r : List Nd} {er : Int} (h : NormR l er r) : r.length ≤ l.length := by
  rcases h with ⟨_, rfl, _⟩ | ⟨_, _, s, hp, _, _, _, rfl⟩
  · simp
  · unfold relabel; rw [List.length_map, hp.length_eq]; exact Nat.le_refl _
set_option maxHeartbeats 1000000 in
set_option maxRecDepth 100000 in
theorem lawN_calls (A : Option Addr) (c : Nat) (l : List Nd) (w : World) (hr : Kd.C k33 w A l.length l) (hg : ∀ n ∈ l, GoodN n) (hl : l.length ≤ 9223372036854775807) (hM : MaxCell w) (hw0 : 0 < w.heap.size) :
    Calls Tryd.prog 3 #[.slice A l.length c] w fun e w' => e = .returned (.bool true) ∧ Below w.heap.size w w' := by
  have HF := Aside0.mk (few_calls A c l w hr hg hl)
  have HM := Aside0.mk hM
  clear hr hg hM
  go_enter Tryd.func3, Tryd.ntmps3
  go_wp2_with (first
    | (go_at_call 4; refine HF.out.mono ?_; rintro e w1 ⟨v1, ns, rfl, ho1, hn40, hgd, hb1⟩; obtain ⟨A1, c1, rfl, hc1, hr1⟩ := ho1.reads; have HC1 := Aside0.mk hc1; have HR1 := Aside0.mk hr1; have HGD := Aside0.mk hgd; have HB1 := Aside0.mk hb1; have HM1 := Aside0.mk (HM.out.drop hw0 hb1); have HW1 := Aside0.mk (Nat.lt_of_lt_of_le hw0 hb1.size); clear ho1 hc1 hr1 hgd hb1)
    | (go_at_call 5; refine (normal_calls A1 c1 ns w1 HR1.out HC1.out (by omega) HGD.out HM1.out HW1.out).mono ?_; rintro e w2 ⟨v2, er, r, rfl, hn2, hr2, hb2⟩; obtain ⟨A2, c2, rfl, _, hc2⟩ := Kd.R_reads hr2; have HN2 := Aside0.mk hn2; have HC2 := Aside0.mk hc2; have HB2 := Aside0.mk (HB1.out.trans (hb2.mono HB1.out.size)); have HR2 := Aside0.mk (Kd.C_below HR1.out hb2); clear hn2 hr2 hc2 hb2)
    | (go_at_call 6; refine (refN_calls A1 c1 ns w2 HR2.out HC1.out (by omega) HGD.out).mono ?_; rintro e w3 ⟨v3, er3, r3, rfl, hn3, hr3, hb3⟩; obtain ⟨rfl, rfl⟩ := norm_same HN2.out hn3; obtain ⟨A3, c3, rfl, _, hc3⟩ := Kd.R_reads hr3; have HC3 := Aside0.mk hc3; have HB3 := Aside0.mk (HB2.out.trans (hb3.mono HB2.out.size)); have HC23 := Aside0.mk (Kd.C_below HC2.out hb3); have HM3 := Aside0.mk (HM.out.drop hw0 HB3.out); have HW3 := Aside0.mk (Nat.lt_of_lt_of_le hw0 HB3.out.size); clear hn3 hr3 hc3 hb3)
    | (go_at_call 7; refine (same_calls A2 A3 c2 c3 r w3 HC23.out HC3.out (by have := norm_len HN2.out; omega)).mono ?_; rintro e w4 ⟨rfl, k, rfl⟩)
    | (go_at_call 8; refine (awake_calls (w3.drewN k) HM3.out HW3.out).mono ?_; rintro e w5 ⟨rfl, hb5⟩; have HB5 := Aside0.mk ((pw_below_drewN HB3.out k).trans (hb5.mono HB3.out.size)); clear hb5))
  go_goals
  all_goals (go_ret; exact ⟨rfl, HB5.out⟩)
end Go.Proofs.YtiloadafnalhpaaDoor
namespace Go.Proofs.YtiloadafnalhpaaDoor
open Go.RowKit Go.Proofs.YtiloadafnalhpaaDoorW.PrintWords Go.Proofs.YtiloadafnalhpaaDoorW.PrintLast Go.Proofs.YtiloadafnalhpaaDoorW.PrintMore
open Go.Proofs.YtiloadafnalhpaaDoor.PA Go.ChangeShapes Go.WideShapes
set_option linter.unusedVariables false
set_option linter.unusedSimpArgs false

theorem int_of_trod {H : Type} {enc : TypeId × Value → H} {P : Program} {w : World} {base : Nat} {sp : Nat → Bool} {held : Bool} {fuel : Nat} {t : TypeId} {k : IntKind} {l : List Value} {y : DataW H × List MemPlace}
    (ht : P.underlying t = some (.int k)) (h : DataW.trod enc P w base sp held fuel t l = some y) : ∃ n, l = [.int k n] ∧ (Lit.int k n).wf = true := by
  cases fuel with
  | zero => simp [DataW.trod] at h
  | succ fuel =>
    match l, h with
    | [c], h =>
      cases c <;> simp [DataW.trod, ht] at h
      rename_i k' n
      obtain ⟨⟨rfl, hw⟩, rfl⟩ := h
      exact ⟨n, rfl, hw⟩
    | [], h => simp [DataW.trod, ht] at h
    | _ :: _ :: _, h => simp [DataW.trod, ht] at h
theorem string_of_trod {H : Type} {enc : TypeId × Value → H} {P : Program} {w : World} {base : Nat} {sp : Nat → Bool} {held : Bool} {fuel : Nat} {t : TypeId} {l : List Value} {y : DataW H × List MemPlace}
    (ht : P.underlying t = some .string) (h : DataW.trod enc P w base sp held fuel t l = some y) : ∃ s : ByteArray, l = [.string s] ∧ y.1 = .lit (.string s.data.toList) := by
  cases fuel with
  | zero => simp [DataW.trod] at h
  | succ fuel =>
    match l, h with
    | [c], h =>
      cases c <;> simp [DataW.trod, ht] at h
      rename_i s
      exact ⟨s, rfl, by rw [← h.2]⟩
    | [], h => simp [DataW.trod, ht] at h
    | _ :: _ :: _, h => simp [DataW.trod, ht] at h
theorem cells_node : Tryd.prog.cellsOf 33 = 7 := by kernel_rfl
theorem cells_stat : Tryd.prog.cellsOf 31 = 5 := by kernel_rfl
theorem cells_str : Tryd.prog.cellsOf 9 = 1 := by kernel_rfl
theorem cells_int : Tryd.prog.cellsOf 3 = 1 := by kernel_rfl
theorem bytes_node : Tryd.prog.bytesOf 33 = 72 := by kernel_rfl
theorem one_of_take {l : List Value} {v : Value} {i : Nat} (h : (l.drop i).take 1 = [v]) : l[i]? = some v := by
  have := congrArg (fun x => x[0]?) h
  simpa [List.getElem?_take, List.getElem?_drop] using this
set_option maxRecDepth 100000 in
theorem stat_of_trod {H : Type} {enc : TypeId × Value → H} {w : World} {base : Nat} {sp : Nat → Bool} {held : Bool} {fuel : Nat} {l : List Value} {y : DataW H × List MemPlace}
    (h : DataW.trod enc Tryd.prog w base sp held fuel 31 l = some y) : ∃ x : S31, l = [.int .i64 x.f0, .int .i64 x.f1, .int .i64 x.f2, .int .i64 x.f3, .int .i64 x.f4] ∧ (Lit.int .i64 x.f0).wf = true := by
  obtain ⟨xs, n, rfl, rfl, hl, hn, hf⟩ := DataW.trod_struct Tryd.underlying31 h
  rw [cells_stat] at hl
  have key : ∀ (i : Nat) (f : Field), (#[{ name := "Ino", type := 3, offset := 0, embedded := false, tag := "", pkgPath := "", byteOffset := 0 }, { name := "Gen", type := 3, offset := 1, embedded := false, tag := "", pkgPath := "", byteOffset := 8 }, { name := "Kind", type := 3, offset := 2, embedded := false, tag := "", pkgPath := "", byteOffset := 16 }, { name := "Links", type := 3, offset := 3, embedded := false, tag := "", pkgPath := "", byteOffset := 24 }, { name := "Size", type := 3, offset := 4, embedded := false, tag := "", pkgPath := "", byteOffset := 32 }] : Array Field)[i]? = some f → f.type = 3 → f.offset = i → i < 5 → ∃ z, l[i]? = some (.int .i64 z) ∧ (Lit.int .i64 z).wf = true := by
    intro i f hi ht ho h5
    have h1 := hf i f hi
    rw [ht, ho, cells_int] at h1
    have h2 : xs[i]? = some xs[i]! := by
      rw [List.getElem?_eq_getElem (by rw [hn]; exact h5)]
      congr 1
      rw [List.getElem!_eq_getElem?_getD, List.getElem?_eq_getElem (by rw [hn]; exact h5)]; rfl
    rw [h2] at h1
    obtain ⟨z, hz, hw⟩ := int_of_trod Tryd.underlying3 h1
    exact ⟨z, one_of_take hz, hw⟩
  obtain ⟨z0, h0, w0⟩ := key 0 _ rfl rfl rfl (by omega)
  obtain ⟨z1, h1, _⟩ := key 1 _ rfl rfl rfl (by omega)
  obtain ⟨z2, h2, _⟩ := key 2 _ rfl rfl rfl (by omega)
  obtain ⟨z3, h3, _⟩ := key 3 _ rfl rfl rfl (by omega)
  obtain ⟨z4, h4, _⟩ := key 4 _ rfl rfl rfl (by omega)
  refine ⟨⟨z0, z1, z2, z3, z4⟩, ?_, w0⟩
  match l, hl with
  | [a, b, c, d, e], _ =>
    simp at h0 h1 h2 h3 h4
    subst h0 h1 h2 h3 h4
    rfl
set_option maxRecDepth 100000 in
theorem node_of_trod {H : Type} {enc : TypeId × Value → H} {w : World} {base : Nat} {sp : Nat → Bool} {held : Bool} {fuel : Nat} {l : List Value} {y : DataW H × List MemPlace}
    (h : DataW.trod enc Tryd.prog w base sp held fuel 33 l = some y) :
    ∃ x : Nd, l = [.string x.f0, .int .i64 x.f1.f0, .int .i64 x.f1.f1, .int .i64 x.f1.f2, .int .i64 x.f1.f3, .int .i64 x.f1.f4, .string x.f2] ∧ (Lit.int .i64 x.f1.f0).wf = true ∧ x.f0.size ∈ y.1.weights Tryd.prog 33 ∧ x.f2.size ∈ y.1.weights Tryd.prog 33 := by
  obtain ⟨xs, n, rfl, rfl, hl, hn, hf⟩ := DataW.trod_struct Tryd.underlying33 h
  rw [cells_node] at hl
  match xs, hn with
  | [y0, y1, y2], _ =>
    have t0 : DataW.trod enc Tryd.prog w base sp held n 9 ((l.drop 0).take (Tryd.prog.cellsOf 9)) = some y0 := hf 0 _ rfl
    have t1 : DataW.trod enc Tryd.prog w base sp held n 31 ((l.drop 1).take (Tryd.prog.cellsOf 31)) = some y1 := hf 1 _ rfl
    have t2 : DataW.trod enc Tryd.prog w base sp held n 9 ((l.drop 6).take (Tryd.prog.cellsOf 9)) = some y2 := hf 2 _ rfl
    rw [cells_str] at t0 t2
    rw [cells_stat] at t1
    obtain ⟨s0, e0, d0⟩ := string_of_trod Tryd.underlying9 t0
    obtain ⟨x1, e1, w1⟩ := stat_of_trod t1
    obtain ⟨s2, e2, d2⟩ := string_of_trod Tryd.underlying9 t2
    refine ⟨⟨s0, x1, s2⟩, ?_, w1, ?_, ?_⟩
    · match l, hl with
      | [a, b1, b2, b3, b4, b5, c], _ =>
        simp at e0 e1 e2
        obtain ⟨rfl, rfl, rfl, rfl, rfl⟩ := e1
        subst e0 e2
        rfl
    · simp [DataW.weights, Tryd.underlying33, DataW.weightsEach, d0]
    · simp [DataW.weights, Tryd.underlying33, DataW.weightsEach, d2]
theorem mem_weightsAll {H : Type} {P : Program} {e : TypeId} {n : Nat} {d : DataW H} : ∀ {l : List (DataW H)}, d ∈ l → n ∈ d.weights P e → n ∈ DataW.weightsAll P e l
  | x :: l, h, hn => by
    simp only [DataW.weightsAll, List.mem_append]
    rcases List.mem_cons.1 h with rfl | h
    · exact .inl hn
    · exact .inr (mem_weightsAll h hn)
instance : Inhabited Nd := ⟨z33⟩
theorem nodes_of_trod {H : Type} {enc : TypeId × Value → H} {w : World} {fuel : Nat} {A : Option Addr} {len cap : Nat} {y : DataW H × List MemPlace}
    (h : DataW.trod enc Tryd.prog w 0 (fun _ => true) true fuel 22 [.slice A len cap] = some y) (hy : (y.1.weights Tryd.prog 22).all (· ≤ reachBytes) = true) :
    ∃ l : List Nd, l.length = len ∧ Kd.C k33 w A l.length l ∧ (∀ n ∈ l, GoodN n) ∧ l.length ≤ 9223372036854775807 := by
  rcases Go.Deep.open_slice Tryd.underlying22 h with ⟨hcs, _⟩ | ⟨a, len', cap', m, n, D, Pl, hcs, _, hl, hm, hmm, rfl, hel⟩
  · obtain ⟨rfl, rfl, rfl⟩ : A = none ∧ len = 0 ∧ cap = 0 := by simpa using hcs
    exact ⟨[], rfl, Kd.C_nil _ _, (fun _ h => by cases h), by decide⟩
  · obtain ⟨rfl, rfl, rfl⟩ : A = some a ∧ len = len' ∧ cap = cap' := by simpa using hcs
    have hmm' : m = cap := by rw [hmm]; simp
    clear hmm
    subst hmm'
    rw [cells_node] at hel
    have hx : ∀ i, i < len → ∃ x : Nd, (∀ j u, ([.string x.f0, .int .i64 x.f1.f0, .int .i64 x.f1.f1, .int .i64 x.f1.f2, .int .i64 x.f1.f3, .int .i64 x.f1.f4, .string x.f2] : List Value)[j]? = some u → w.cell? (a.add (i * 7 + j)) = some u) ∧ GoodN x := by
      intro i hi
      obtain ⟨cs', hc, ht⟩ := hel i (by omega)
      obtain ⟨x, rfl, hw, m0, m2⟩ := node_of_trod ht
      obtain ⟨_, hlen, hcell⟩ := World.cells?_some hc
      refine ⟨x, fun j u hj => ?_, ?_⟩
      · have hj7 : j < 7 := by
          have := (List.getElem?_eq_some_iff.1 hj).1
          simpa using this
        rw [← Go.Deep.add_add, hcell j hj7, hj]
      · have hmem : D i ∈ (List.range len).map D := List.mem_map.2 ⟨i, List.mem_range.2 hi, rfl⟩
        have hle : ∀ k, k ∈ (D i).weights Tryd.prog 33 → k ≤ reachBytes := fun k hk => by
          have := List.all_eq_true.1 hy k (by
            simp only [DataW.weights, Tryd.underlying22, List.mem_cons, List.mem_append]
            exact .inr (.inl (mem_weightsAll hmem hk)))
          simpa using this
        have hr : reachBytes = 140737488351232 := rfl
        have b0 := hle _ m0
        have b2 := hle _ m2
        have hw' : -9223372036854775808 ≤ x.f1.f0 ∧ x.f1.f0 ≤ 9223372036854775807 := by simpa [Lit.wf, IntKind.min, IntKind.max, IntKind.signed, IntKind.bits] using hw
        exact ⟨by omega, by omega, hw'.1, hw'.2⟩
    obtain ⟨X, hX⟩ := Go.Deep.choose_lt hx
    have hlm : len ≤ 9223372036854775807 := by unfold maxLen at hm; omega
    have hlen : ((List.range len).map X).length = len := by simp
    refine ⟨(List.range len).map X, hlen, ⟨rfl, by rw [hlen]; exact hlm, fun _ => ⟨a, rfl, fun j p hj => ?_⟩⟩, fun x hx => ?_, by rw [hlen]; exact hlm⟩
    · rw [List.getElem?_map] at hj
      obtain ⟨j', hj', rfl⟩ := Option.map_eq_some_iff.1 hj
      obtain ⟨hlt, rfl⟩ := List.getElem?_eq_some_iff.1 hj'
      have hlt' : j < len := by simpa using hlt
      rw [List.getElem_range]
      exact ⟨_, rfl, k33_mk w (X j), (hX j hlt').1⟩
    · obtain ⟨i, hi, rfl⟩ := List.mem_map.1 hx
      exact (hX i (List.mem_range.1 hi)).2
end Go.Proofs.YtiloadafnalhpaaDoor
