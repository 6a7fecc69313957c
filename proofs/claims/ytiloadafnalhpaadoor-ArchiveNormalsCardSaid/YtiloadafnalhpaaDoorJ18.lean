/-
  PLAIN: the two one forms are one: order, and what the reference's insertion comes to.
  PLAIN: the two one forms are one: places, numbers, links; and the law.
  PLAIN: the law: archive.Normal and the reference's answer alike.
  PLAIN: the law: archive.Normal and the reference's answer alike.
-/
import Derived.Test.YtiloadafnalhpaaDoorJ9
namespace Go.Proofs.YtiloadafnalhpaaDoor
open Go.RowKit Go.Proofs.YtiloadafnalhpaaDoorW.PrintWords Go.Proofs.YtiloadafnalhpaaDoorW.PrintLast Go.Proofs.YtiloadafnalhpaaDoorW.PrintMore
open Go.Proofs.YtiloadafnalhpaaDoor.PA
set_option linter.unusedVariables false
set_option linter.unusedSimpArgs false

abbrev ltN (x y : Nd) : Prop := ordL (pth x) (pth y) < 0
abbrev Strict (l : List Nd) : Prop := l.Pairwise ltN
abbrev Paths (l : List Nd) : List (List UInt8) := l.map pth

theorem insN_perm (x : Nd) : ∀ l : List Nd, (insN x l).Perm (x :: l)
  | [] => .refl _
  | m :: t => by
    unfold insN; split
    · exact .refl _
    · exact ((insN_perm x t).cons m).trans (.swap x m t)
theorem findIx_none : ∀ (l : List Nd) (p : List UInt8), findIx l p = -1 ↔ ∀ n ∈ l, pth n ≠ p
  | [], p => by simp [findIx]
  | n :: l, p => by
    have ih := findIx_none l p
    have hr := findIx_range l p
    unfold findIx
    constructor
    · intro h
      split at h
      · cases h
      · rename_i hn
        split at h
        · rename_i he
          intro m hm
          rcases List.mem_cons.1 hm with rfl | hm
          · exact hn
          · exact ih.1 he m hm
        · omega
    · intro h
      rw [if_neg (h n List.mem_cons_self), if_pos (ih.2 fun m hm => h m (List.mem_cons_of_mem _ hm))]
theorem findIx_at : ∀ (l : List Nd) (p : List UInt8) (j : Nat), findIx l p = (j : Int) → ∃ x, l[j]? = some x ∧ pth x = p
  | [], p, j, h => by simp [findIx] at h <;> omega
  | n :: l, p, j, h => by
    unfold findIx at h
    split at h
    · rename_i hn
      obtain rfl : j = 0 := by omega
      exact ⟨n, rfl, hn⟩
    · split at h
      · omega
      · obtain ⟨i, rfl⟩ : ∃ i, j = i + 1 := by
          cases j with
          | zero => have := findIx_range l p; omega
          | succ i => exact ⟨i, rfl⟩
        obtain ⟨x, hx, hp⟩ := findIx_at l p i (by omega)
        exact ⟨x, by simpa using hx, hp⟩
theorem insN_strict (x : Nd) (hx : okPath x) : ∀ (l : List Nd), (∀ n ∈ l, okPath n) → Strict l → (∀ n ∈ l, pth n ≠ pth x) → Strict (insN x l)
  | [], _, _, _ => by simp [insN]
  | m :: t, hok, hs, hne => by
    have hm := hok m List.mem_cons_self
    have ht := fun n (hn : n ∈ t) => hok n (List.mem_cons_of_mem _ hn)
    obtain ⟨h1, h2⟩ := List.pairwise_cons.1 hs
    unfold insN; split
    · rename_i hlt
      refine List.pairwise_cons.2 ⟨fun n hn => ?_, hs⟩
      rcases List.mem_cons.1 hn with rfl | hn
      · exact hlt
      · exact ordL_trans _ _ _ hx.1 hm.1 (ht n hn).1 hlt (h1 n hn)
    · rename_i hlt
      refine List.pairwise_cons.2 ⟨fun n hn => ?_, insN_strict x hx t ht h2 (fun n hn => hne n (List.mem_cons_of_mem _ hn))⟩
      rcases insN_mem x t n hn with rfl | hn
      · have ha := ordL_anti (pth n) (pth m)
        have hz : ordL (pth n) (pth m) ≠ 0 := fun h => hne m List.mem_cons_self (ordL_zero _ _ hx.1 hm.1 h).symm
        show ordL (pth m) (pth n) < 0
        omega
      · exact h1 n hn
theorem refIns_some : ∀ (l out o : List Nd), (∀ n ∈ out, okPath n) → Strict out → refIns out l = some o → Strict o ∧ o.Perm (out ++ l) ∧ ∀ n ∈ l, mayN n = true
  | [], out, o, hok, hs, h => by
    simp only [refIns, Option.some.injEq] at h; subst h
    exact ⟨hs, by simp, by simp⟩
  | n :: l, out, o, hok, hs, h => by
    unfold refIns at h
    split at h
    · rename_i hc
      obtain ⟨r1, r2, r3⟩ := refIns_some l (insN n out) o (fun m hm => by
        rcases insN_mem n out m hm with rfl | hm
        · exact mayN_ok hc.1
        · exact hok m hm) (insN_strict n (mayN_ok hc.1) out hok hs ((findIx_none _ _).1 hc.2)) h
      refine ⟨r1, r2.trans ?_, fun m hm => ?_⟩
      · exact ((insN_perm n out).append_right l).trans List.perm_middle.symm
      · rcases List.mem_cons.1 hm with rfl | hm
        · exact hc.1
        · exact r3 m hm
    · cases h
theorem refIns_none : ∀ (l out : List Nd), refIns out l = none → (∃ n ∈ l, mayN n = false) ∨ ¬ (Paths (out ++ l)).Nodup
  | [], out, h => by simp [refIns] at h
  | n :: l, out, h => by
    unfold refIns at h
    split at h
    · rename_i hc
      rcases refIns_none l (insN n out) h with ⟨m, hm, h1⟩ | h1
      · exact .inl ⟨m, List.mem_cons_of_mem _ hm, h1⟩
      · refine .inr fun hd => h1 ?_
        have hp : (Paths (insN n out ++ l)).Perm (Paths (out ++ n :: l)) := (((insN_perm n out).append_right l).trans List.perm_middle.symm).map _
        exact hp.nodup_iff.2 hd
    · rename_i hc
      by_cases hm : mayN n = true
      · refine .inr fun hd => hc ⟨hm, (findIx_none _ _).2 fun m hmo e => ?_⟩
        rw [Paths, List.map_append, List.nodup_append] at hd
        exact hd.2.2 (pth m) (List.mem_map_of_mem hmo) (pth n) (List.mem_map_of_mem List.mem_cons_self) e
      · exact .inl ⟨n, List.mem_cons_self, by simpa using hm⟩
theorem strict_nodup {l : List Nd} (h : Strict l) : (Paths l).Nodup := by
  rw [List.Nodup, List.pairwise_map]
  exact h.imp fun {a b} hab e => by unfold ltN at hab; rw [e, ordL_irrefl] at hab; omega
theorem sorted_strict {l : List Nd} (hok : ∀ n ∈ l, okPath n) (hs : Sorted l) (hd : (Paths l).Nodup) : Strict l := by
  rw [List.Nodup, List.pairwise_map] at hd
  have h2 := hs.and hd
  refine List.Pairwise.imp_of_mem (fun {a b} ha hb h => ?_) h2
  have hz : ordL (pth a) (pth b) ≠ 0 := fun e => h.2 (ordL_zero _ _ (hok a ha).1 (hok b hb).1 e)
  show ordL (pth a) (pth b) < 0
  have := h.1
  omega
/-- Two strictly ordered lists of the same nodes are one. -/
theorem strict_unique : ∀ (a b : List Nd), (∀ n ∈ a, okPath n) → a.Perm b → Strict a → Strict b → a = b
  | [], b, _, hp, _, _ => by rw [hp.nil_eq]
  | x :: a, [], _, hp, _, _ => by have := hp.length_eq; simp at this
  | x :: a, y :: b, hok, hp, ha, hb => by
    obtain ⟨ha1, ha2⟩ := List.pairwise_cons.1 ha
    obtain ⟨hb1, hb2⟩ := List.pairwise_cons.1 hb
    have hokx := hok x List.mem_cons_self
    have hxy : x = y := by
      have hx : x ∈ y :: b := hp.mem_iff.1 List.mem_cons_self
      have hy : y ∈ x :: a := hp.mem_iff.2 List.mem_cons_self
      rcases List.mem_cons.1 hx with h | h
      · exact h
      · rcases List.mem_cons.1 hy with h' | h'
        · exact h'.symm
        · have e1 := ha1 y h'
          have e2 := hb1 x h
          have := ordL_anti (pth x) (pth y)
          unfold ltN at e1 e2
          omega
    subst hxy
    rw [strict_unique a b (fun n hn => hok n (List.mem_cons_of_mem _ hn)) (List.Perm.cons_inv hp) ha2 hb2]
end Go.Proofs.YtiloadafnalhpaaDoor
namespace Go.Proofs.YtiloadafnalhpaaDoor
open Go.RowKit Go.Proofs.YtiloadafnalhpaaDoorW.PrintWords Go.Proofs.YtiloadafnalhpaaDoorW.PrintLast Go.Proofs.YtiloadafnalhpaaDoorW.PrintMore
open Go.Proofs.YtiloadafnalhpaaDoor.PA
set_option linter.unusedVariables false
set_option linter.unusedSimpArgs false

theorem placedFrom_iff : ∀ (l b : List Nd), placedFrom b l = true ↔ ∀ i x, l[i]? = some x → placedAt (b ++ l.take i) x = true
  | [], b => by simp [placedFrom]
  | n :: l, b => by
    unfold placedFrom
    rw [Bool.and_eq_true, placedFrom_iff l (b ++ [n])]
    constructor
    · rintro ⟨h1, h2⟩ i x hx
      cases i with
      | zero => obtain rfl : n = x := by simpa using hx
                simpa using h1
      | succ i => have := h2 i x (by simpa using hx)
                  simpa using this
    · intro h
      refine ⟨by simpa using h 0 n rfl, fun i x hx => ?_⟩
      have := h (i + 1) x (by simpa using hx)
      simpa using this
theorem inoFrom_iff : ∀ (l b : List Nd), inoFrom b l = true ↔ ∀ i x, l[i]? = some x → inoAt (b ++ l.take i) x = true
  | [], b => by simp [inoFrom]
  | n :: l, b => by
    unfold inoFrom
    rw [Bool.and_eq_true, inoFrom_iff l (b ++ [n])]
    constructor
    · rintro ⟨h1, h2⟩ i x hx
      cases i with
      | zero => obtain rfl : n = x := by simpa using hx
                simpa using h1
      | succ i => have := h2 i x (by simpa using hx)
                  simpa using this
    · intro h
      refine ⟨by simpa using h 0 n rfl, fun i x hx => ?_⟩
      have := h (i + 1) x (by simpa using hx)
      simpa using this
abbrev okPair (i k : Nat) (x y : Nd) : Bool := ino y != ino x || k == i || (kind y == 1 && kind x == 1 && dat y == dat x)
theorem okFrom_iff (i : Nat) (x : Nd) : ∀ (l : List Nd) (b : Nat), okFrom i x b l = true ↔ ∀ k y, l[k]? = some y → okPair i (b + k) x y = true
  | [], b => by simp [okFrom]
  | n :: l, b => by
    unfold okFrom
    rw [Bool.and_eq_true, okFrom_iff i x l (b + 1)]
    constructor
    · rintro ⟨h1, h2⟩ k y hy
      cases k with
      | zero => obtain rfl : n = y := by simpa using hy
                exact h1
      | succ k => have := h2 k y (by simpa using hy)
                  rw [show b + (k + 1) = b + 1 + k by omega]; exact this
    · intro h
      refine ⟨h 0 n rfl, fun k y hy => ?_⟩
      have := h (k + 1) y (by simpa using hy)
      rw [show b + 1 + k = b + (k + 1) by omega]; exact this
theorem refC_iff (out : List Nd) : ∀ (l : List Nd) (b : Nat), refC out b l = true ↔ ∀ i x, l[i]? = some x → dirAt out (b + i) x = true ∧ okFrom (b + i) x 0 out = true
  | [], b => by simp [refC]
  | n :: l, b => by
    unfold refC
    rw [Bool.and_eq_true, Bool.and_eq_true, refC_iff out l (b + 1)]
    constructor
    · rintro ⟨h1, h2⟩ k y hy
      cases k with
      | zero => obtain rfl : n = y := by simpa using hy
                exact h1
      | succ k => have := h2 k y (by simpa using hy)
                  rw [show b + (k + 1) = b + 1 + k by omega]; exact this
    · intro h
      refine ⟨h 0 n rfl, fun k y hy => ?_⟩
      have := h (k + 1) y (by simpa using hy)
      rw [show b + 1 + k = b + (k + 1) by omega]; exact this

theorem firstIx_at : ∀ (l : List Nd) (c : Int) (m : Nat), firstIx l c = (m : Int) + 1 → ∃ z, l[m]? = some z ∧ ino z = c
  | [], c, m, h => by simp [firstIx] at h <;> omega
  | n :: l, c, m, h => by
    unfold firstIx at h
    split at h
    · rename_i hn
      obtain rfl : m = 0 := by omega
      exact ⟨n, rfl, hn⟩
    · split at h
      · omega
      · obtain ⟨i, rfl⟩ : ∃ i, m = i + 1 := by
          cases m with
          | zero => have := firstIx_range l c; omega
          | succ i => exact ⟨i, rfl⟩
        obtain ⟨z, hz, hc⟩ := firstIx_at l c i (by omega)
        exact ⟨z, by simpa using hz, hc⟩
theorem firstIx_some : ∀ (l : List Nd) (c : Int) (j : Nat) (y : Nd), l[j]? = some y → ino y = c → firstIx l c ≠ 0 ∧ firstIx l c ≤ (j : Int) + 1
  | [], c, j, y, h, _ => by simp at h
  | n :: l, c, j, y, h, hc => by
    unfold firstIx
    split
    · omega
    · rename_i hn
      cases j with
      | zero => obtain rfl : n = y := by simpa using h
                exact absurd hc hn
      | succ j =>
        obtain ⟨h1, h2⟩ := firstIx_some l c j y (by simpa using h) hc
        have := firstIx_range l c
        rw [if_neg h1]; omega

theorem ordL_take : ∀ (l : List UInt8) (m : Nat), m < l.length → ordL (l.take m) l < 0
  | [], m, h => by simp at h
  | b :: l, 0, h => by rw [List.take_zero, ordL_nil]; simp <;> omega
  | b :: l, m + 1, h => by rw [List.take_succ_cons, ordL_eq]; exact ordL_take l m (by simpa using h)
theorem above_lt {x : Nd} (hm : mayN x = true) (h1 : pth x ≠ [47]) : ordL (aboveB x.f0).data.toList (pth x) < 0 := by
  obtain ⟨a, b, c⟩ := splitE_ok (mayN_path hm)
  have h0 := mayN_above hm
  have hsz : Lib.lastIndexByte x.f0 47 < x.f0.size := by
    rcases Lib.lastIndexByte_spec x.f0 47 with ⟨e, _⟩ | ⟨i, hi, e, _⟩ <;> omega
  have hls := toList_size x.f0
  unfold aboveB
  split
  · have hp : pth x = 47 :: (pth x).tail := by
      cases hh : pth x with
      | nil => rw [hh] at b; cases b
      | cons v t => rw [hh] at b; have : v = 47 := by simpa using b
                    rw [this]; rfl
    have ht : (pth x).tail ≠ [] := fun e => h1 (by rw [hp, e])
    rw [hp]
    show ordL [47] (47 :: (pth x).tail) < 0
    rw [ordL_eq, ordL_nil]
    have := List.length_pos_iff.mpr ht
    omega
  · have e : (x.f0.extract 0 (Lib.lastIndexByte x.f0 47).toNat).data.toList = (pth x).take (Lib.lastIndexByte x.f0 47).toNat := by
      unfold pth; rw [ByteArray.data_extract, Array.toList_extract]; simp [List.extract]
    rw [e]
    exact ordL_take _ _ (by unfold pth; rw [hls]; omega)
end Go.Proofs.YtiloadafnalhpaaDoor
namespace Go.Proofs.YtiloadafnalhpaaDoor
open Go.RowKit Go.Proofs.YtiloadafnalhpaaDoorW.PrintWords Go.Proofs.YtiloadafnalhpaaDoorW.PrintLast Go.Proofs.YtiloadafnalhpaaDoorW.PrintMore
open Go.Proofs.YtiloadafnalhpaaDoor.PA
set_option linter.unusedVariables false
set_option linter.unusedSimpArgs false

theorem strict_at {l : List Nd} (h : Strict l) {i j : Nat} {x y : Nd} (hx : l[i]? = some x) (hy : l[j]? = some y) (hij : i < j) : ltN x y := by
  obtain ⟨hi, ex⟩ := List.getElem?_eq_some_iff.1 hx
  obtain ⟨hj, ey⟩ := List.getElem?_eq_some_iff.1 hy
  have := List.pairwise_iff_getElem.1 h i j hi hj hij
  rw [ex, ey] at this; exact this
theorem ltN_irrefl (x : Nd) : ¬ ltN x x := by unfold ltN; rw [ordL_irrefl]; omega
theorem ltN_asymm {x y : Nd} (h : ltN x y) : ¬ ltN y x := by
  unfold ltN at h ⊢; have := ordL_anti (pth x) (pth y); omega
theorem same_path {l : List Nd} (h : Strict l) {i j : Nat} {x y : Nd} (hx : l[i]? = some x) (hy : l[j]? = some y) (e : pth x = pth y) : i = j := by
  rcases Nat.lt_trichotomy i j with hij | hij | hij
  · have := strict_at h hx hy hij; unfold ltN at this; rw [e, ordL_irrefl] at this; omega
  · exact hij
  · have := strict_at h hy hx hij; unfold ltN at this; rw [e, ordL_irrefl] at this; omega

/-- What is placed is strictly in order. -/
theorem placed_strict {s : List Nd} (hok : ∀ n ∈ s, okPath n) (hp : placedB s = true) : Strict s := by
  unfold placedB at hp
  rw [Bool.and_eq_true] at hp
  have h := (placedFrom_iff s []).1 hp.1
  have step : ∀ i x y, s[i]? = some x → s[i + 1]? = some y → ltN x y := by
    intro i x y hx hy
    have := h (i + 1) y hy
    rw [List.nil_append, take_snoc_nd hx] at this
    unfold placedAt at this
    rw [List.getLast?_concat] at this
    simp only [Bool.and_eq_true, decide_eq_true_eq] at this
    exact this.1.2
  refine List.pairwise_iff_getElem.2 ?_
  intro i j hi hj hij
  obtain ⟨d, rfl⟩ : ∃ d, j = i + 1 + d := ⟨j - (i + 1), by omega⟩
  induction d with
  | zero => exact step i _ _ (List.getElem?_eq_getElem hi) (List.getElem?_eq_getElem hj)
  | succ d ih =>
    have h1 := ih (by omega) (by omega)
    have h2 := step (i + 1 + d) _ _ (List.getElem?_eq_getElem (by omega)) (List.getElem?_eq_getElem hj)
    exact ordL_trans _ _ _ (hok _ (List.getElem_mem _)).1 (hok _ (List.getElem_mem _)).1 (hok _ (List.getElem_mem _)).1 h1 h2

theorem dir_iff {s : List Nd} (hm : ∀ n ∈ s, mayN n = true) (hs : Strict s) {i : Nat} {x : Nd} (hx : s[i]? = some x) (hi : i ≠ 0) (h1 : pth x ≠ [47]) :
    hasDir (s.take i) (aboveB x.f0).data.toList = true ↔ dirAt s i x = true := by
  have hxm := hm x (List.mem_of_getElem? hx)
  have hab := above_lt hxm h1
  have hi0 : (i == 0) = false := beq_eq_false_iff_ne.mpr hi
  generalize hp : (aboveB x.f0).data.toList = p at hab
  unfold dirAt
  rw [hi0, hp, Bool.false_or]
  constructor
  · intro h
    unfold hasDir at h
    obtain ⟨d, hd, hk⟩ := List.any_eq_true.1 h
    rw [Bool.and_eq_true] at hk
    have hk1 : d.f1.f2 = 2 := by simpa using hk.1
    have hk2 : pth d = p := by simpa using hk.2
    obtain ⟨k, hdk⟩ := List.getElem?_of_mem hd
    have hdk' : s[k]? = some d := by
      rw [List.getElem?_take] at hdk; split at hdk
      · exact hdk
      · cases hdk
    have hne : findIx s p ≠ -1 := fun e => (findIx_none s p).1 e d (List.mem_of_getElem? hdk') hk2
    obtain ⟨j, hj⟩ : ∃ j : Nat, findIx s p = (j : Int) := ⟨(findIx s p).toNat, by have := findIx_range s p; omega⟩
    obtain ⟨z, hz, hzp⟩ := findIx_at s p j hj
    have : k = j := same_path hs hdk' hz (by rw [hk2, hzp])
    subst this
    have : d = z := by rw [hdk'] at hz; exact Option.some.inj hz
    subst this
    rw [hj, Int.toNat_natCast, hz]
    simp [kind, hk1]
  · intro h
    by_cases hne : findIx s p = -1
    · rw [hne] at h
      cases hh : s[(-1 : Int).toNat]? with
      | none => rw [hh] at h; cases h
      | some d => rw [hh] at h; simp at h
    · obtain ⟨j, hj⟩ : ∃ j : Nat, findIx s p = (j : Int) := ⟨(findIx s p).toNat, by have := findIx_range s p; omega⟩
      obtain ⟨z, hz, hzp⟩ := findIx_at s p j hj
      rw [hj, Int.toNat_natCast, hz] at h
      simp only [Bool.and_eq_true, decide_eq_true_eq, beq_iff_eq] at h
      have hlt : ltN z x := by unfold ltN; rw [hzp]; exact hab
      have hji : j < i := by
        rcases Nat.lt_trichotomy j i with hc | hc | hc
        · exact hc
        · subst hc; rw [hx] at hz; injection hz with hz; subst hz; exact absurd hlt (ltN_irrefl _)
        · exact absurd (strict_at hs hx hz hc) (ltN_asymm hlt)
      unfold hasDir
      refine List.any_eq_true.2 ⟨z, List.mem_of_getElem? (i := j) (by rw [List.getElem?_take, if_pos hji]; exact hz), ?_⟩
      rw [Bool.and_eq_true]
      exact ⟨beq_iff_eq.mpr h.2, beq_iff_eq.mpr hzp⟩

theorem placed_iff {s : List Nd} (hm : ∀ n ∈ s, mayN n = true) (hs : Strict s) :
    placedB s = true ↔ rootB s = true ∧ ∀ i x, s[i]? = some x → dirAt s i x = true := by
  have hroot : ∀ {x}, s[0]? = some x → rootB s = (pth x == [47] && kind x == 2) := by
    intro x hx
    cases s with
    | nil => cases hx
    | cons y t => obtain rfl : y = x := by simpa using hx
                  rfl
  have hkind : ∀ {x}, s[0]? = some x → placedB s = (placedFrom [] s && (x.f1.f2 == 2)) := by
    intro x hx
    cases s with
    | nil => cases hx
    | cons y t => obtain rfl : y = x := by simpa using hx
                  rfl
  by_cases hn : s = []
  · subst hn; simp [placedB, rootB]
  · obtain ⟨r, hr⟩ : ∃ r, s[0]? = some r := ⟨_, List.getElem?_eq_getElem (List.length_pos_iff.mpr hn)⟩
    rw [hroot hr, hkind hr, Bool.and_eq_true, Bool.and_eq_true, placedFrom_iff]
    have hlast : ∀ i x, s[i + 1]? = some x → ∃ z, s[i]? = some z ∧ placedAt ([] ++ s.take (i + 1)) x = (pth x != [47] && decide (ordL (pth z) (pth x) < 0) && hasDir (s.take (i + 1)) (aboveB x.f0).data.toList) := by
      intro i x hx
      have hi := (List.getElem?_eq_some_iff.1 hx).1
      obtain ⟨z, hz⟩ : ∃ z, s[i]? = some z := ⟨_, List.getElem?_eq_getElem (by omega)⟩
      refine ⟨z, hz, ?_⟩
      rw [List.nil_append]
      unfold placedAt
      have : (s.take (i + 1)).getLast? = some z := by rw [take_snoc_nd hz, List.getLast?_concat]
      rw [this]
    constructor
    · rintro ⟨h, hk⟩
      have h0 := h 0 r hr
      have hp0 : pth r = [47] := by simpa [placedAt] using h0
      refine ⟨⟨by simpa using hp0, hk⟩, fun i x hx => ?_⟩
      cases i with
      | zero => simp [dirAt]
      | succ i =>
        obtain ⟨z, hz, e⟩ := hlast i x hx
        have hh := h (i + 1) x hx
        rw [e] at hh
        simp only [Bool.and_eq_true, bne_iff_ne, decide_eq_true_eq] at hh
        exact (dir_iff hm hs hx (by omega) hh.1.1).1 hh.2
    · rintro ⟨⟨hp0, hk⟩, h⟩
      have hp0' : pth r = [47] := by simpa using hp0
      refine ⟨fun i x hx => ?_, hk⟩
      cases i with
      | zero =>
        obtain rfl : r = x := by rw [hr] at hx; exact Option.some.inj hx
        simpa [placedAt] using hp0'
      | succ i =>
        obtain ⟨z, hz, e⟩ := hlast i x hx
        have hne : pth x ≠ [47] := fun hc => by have := same_path hs hr hx (by rw [hp0', hc]); omega
        rw [e]
        simp only [Bool.and_eq_true, bne_iff_ne, decide_eq_true_eq]
        exact ⟨⟨hne, strict_at hs hz hx (by omega)⟩, (dir_iff hm hs hx (by omega) hne).2 (h (i + 1) x hx)⟩
end Go.Proofs.YtiloadafnalhpaaDoor
namespace Go.Proofs.YtiloadafnalhpaaDoor
open Go.RowKit Go.Proofs.YtiloadafnalhpaaDoorW.PrintWords Go.Proofs.YtiloadafnalhpaaDoorW.PrintLast Go.Proofs.YtiloadafnalhpaaDoorW.PrintMore
open Go.Proofs.YtiloadafnalhpaaDoor.PA
set_option linter.unusedVariables false
set_option linter.unusedSimpArgs false

/-- The number of a node that is not the first of its number. -/
theorem first_before {s : List Nd} {i f : Nat} {x z : Nd} (hx : s[i]? = some x) (hf : firstIx s (ino x) = (f : Int) + 1) (hz : s[f]? = some z) (hif : i ≠ f) : inoAt (s.take i) x = (kind x == 1 && kind z == 1 && dat z == dat x) := by
  have hle := (firstIx_some s (ino x) i x hx rfl).2
  have hfi : f < i := by omega
  have hzc : ino z = ino x := by
    obtain ⟨z', hz', hc⟩ := firstIx_at s _ f hf
    rw [hz] at hz'; injection hz' with e; rw [e]; exact hc
  have hzt : (s.take i)[f]? = some z := by rw [List.getElem?_take, if_pos hfi]; exact hz
  have h0 := (firstIx_some (s.take i) (ino x) f z hzt hzc).1
  have hk := firstIx_keep (s.take i) (s.drop i) (ino x) h0
  rw [List.take_append_drop, hf] at hk
  unfold inoAt
  rw [← hk, show ((f : Int) + 1 - 1).toNat = f by omega, hzt]
  have : (((f : Int) + 1) == 0) = false := beq_eq_false_iff_ne.mpr (by omega)
  simp [this]
theorem ino_iff (s : List Nd) : inoB s = true ↔ ∀ i x, s[i]? = some x → okFrom i x 0 s = true := by
  unfold inoB
  rw [inoFrom_iff]
  simp only [List.nil_append]
  constructor
  · intro h i x hx
    refine (okFrom_iff i x s 0).2 fun k y hy => ?_
    rw [Nat.zero_add]
    unfold okPair
    by_cases hc : ino y = ino x
    · by_cases hki : k = i
      · simp [hki]
      · have h0 := (firstIx_some s (ino x) i x hx rfl).1
        have hr := firstIx_range s (ino x)
        obtain ⟨f, hf⟩ : ∃ f : Nat, firstIx s (ino x) = (f : Int) + 1 := ⟨(firstIx s (ino x) - 1).toNat, by omega⟩
        obtain ⟨z, hz, hzc⟩ := firstIx_at s _ f hf
        have hfy : firstIx s (ino y) = (f : Int) + 1 := by rw [hc]; exact hf
        have key : ∀ {j : Nat} {v : Nd}, s[j]? = some v → firstIx s (ino v) = (f : Int) + 1 → j ≠ f → kind v = 1 ∧ kind z = 1 ∧ dat z = dat v := by
          intro j v hv hfv hj
          have := h j v hv
          rw [first_before hv hfv hz hj] at this
          simpa [and_assoc] using this
        by_cases hif : i = f
        · subst hif
          rw [hx] at hz; injection hz with hz; subst hz
          obtain ⟨a, b, c⟩ := key hy hfy hki
          simp [a, b, c]
        · obtain ⟨a, b, c⟩ := key hx hf hif
          by_cases hkf : k = f
          · subst hkf
            rw [hy] at hz; injection hz with hz; subst hz
            simp [a, b, c]
          · obtain ⟨a', b', c'⟩ := key hy hfy hkf
            simp [a, a', ← c, ← c']
    · simp [hc]
  · intro h i x hx
    have h0 := (firstIx_some s (ino x) i x hx rfl)
    have hr := firstIx_range s (ino x)
    obtain ⟨f, hf⟩ : ∃ f : Nat, firstIx s (ino x) = (f : Int) + 1 := ⟨(firstIx s (ino x) - 1).toNat, by omega⟩
    obtain ⟨z, hz, hzc⟩ := firstIx_at s _ f hf
    by_cases hif : i = f
    · have hz0 : firstIx (s.take i) (ino x) = 0 := by
        by_cases hh : firstIx (s.take i) (ino x) = 0
        · exact hh
        · have hk := firstIx_keep (s.take i) (s.drop i) (ino x) hh
          rw [List.take_append_drop, hf] at hk
          have := firstIx_range (s.take i) (ino x)
          have hl : (s.take i).length ≤ i := by simp; omega
          omega
      unfold inoAt
      rw [hz0]
      split <;> simp
    · rw [first_before hx hf hz hif]
      have := (okFrom_iff i x s 0).1 (h i x hx) f z hz
      rw [Nat.zero_add] at this
      unfold okPair at this
      have e1 : (ino z != ino x) = false := bne_eq_false_iff_eq.mpr hzc
      have e2 : (f == i) = false := beq_eq_false_iff_ne.mpr (Ne.symm hif)
      rw [e1, e2, Bool.false_or, Bool.false_or] at this
      simp only [Bool.and_eq_true, beq_iff_eq] at this ⊢
      exact ⟨⟨this.1.2, this.1.1⟩, this.2⟩
theorem links_cnt {s : List Nd} {x : Nd} (hx : x ∈ s) : links s (firstIx s (ino x)) = cnt s (ino x) := by
  obtain ⟨i, hi⟩ := List.getElem?_of_mem hx
  have h0 := (firstIx_some s (ino x) i x hi rfl).1
  have hr := firstIx_range s (ino x)
  obtain ⟨f, hf⟩ : ∃ f : Nat, firstIx s (ino x) = (f : Int) + 1 := ⟨(firstIx s (ino x) - 1).toNat, by omega⟩
  obtain ⟨z, hz, hzc⟩ := firstIx_at s _ f hf
  unfold links cnt
  congr 2
  refine List.filter_congr fun n hn => ?_
  by_cases hc : ino n = ino x
  · rw [hc]; simp
  · have : firstIx s (ino n) ≠ firstIx s (ino x) := fun e => by
      obtain ⟨z', hz', hc'⟩ := firstIx_at s (ino n) f (by rw [e, hf])
      rw [hz] at hz'; injection hz' with e'
      rw [← e', hzc] at hc'; exact hc hc'.symm
    rw [beq_eq_false_iff_ne.mpr this, beq_eq_false_iff_ne.mpr hc]
theorem label_same (s : List Nd) : relabel s = s.map (labelR s) := by
  unfold relabel
  refine List.map_congr_left fun x hx => ?_
  unfold label labelR statR
  rw [links_cnt hx]
theorem both_iff {s : List Nd} (hm : ∀ n ∈ s, mayN n = true) (hs : Strict s) : (placedB s = true ∧ inoB s = true) ↔ (rootB s = true ∧ refC s 0 s = true) := by
  rw [placed_iff hm hs, ino_iff, refC_iff]
  simp only [Nat.zero_add]
  constructor
  · rintro ⟨⟨h1, h2⟩, h3⟩; exact ⟨h1, fun i x hx => ⟨h2 i x hx, h3 i x hx⟩⟩
  · rintro ⟨h1, h2⟩; exact ⟨⟨h1, fun i x hx => (h2 i x hx).1⟩, fun i x hx => (h2 i x hx).2⟩
/-- What the insertion leaves is the sorted list. -/
theorem ref_sorted {l s out : List Nd} (hm : ∀ n ∈ l, mayN n = true) (hp : s.Perm l) (hs : Sorted s) (h : refIns [] l = some out) : s = out ∧ Strict s := by
  obtain ⟨r1, r2, _⟩ := refIns_some l [] out (fun n hn => by cases hn) .nil h
  rw [List.nil_append] at r2
  have hok : ∀ n ∈ s, okPath n := fun n hn => mayN_ok (hm n (hp.mem_iff.1 hn))
  have hpo : s.Perm out := hp.trans r2.symm
  have hd : (Paths s).Nodup := (hpo.map pth).nodup_iff.2 (strict_nodup r1)
  have hst := sorted_strict hok hs hd
  exact ⟨strict_unique s out hok hpo hst r1, hst⟩
/-- The law of the two one forms. -/
theorem norm_same {l r r' : List Nd} {er er' : Int} (h : NormR l er r) (h' : RefR l er' r') : er = er' ∧ r = r' := by
  rcases h with ⟨rfl, rfl, hf⟩ | ⟨rfl, hm, s, hp, hs, hpl, hin, rfl⟩
  · rcases h' with ⟨rfl, rfl, _⟩ | ⟨rfl, out, ho, hrt, hrc, rfl⟩
    · exact ⟨rfl, rfl⟩
    · exfalso
      obtain ⟨_, _, r3⟩ := refIns_some l [] out (fun n hn => by cases hn) .nil ho
      rcases hf with ⟨n, hn, e⟩ | ⟨hm, s, hp, hs, hf⟩
      · rw [r3 n hn] at e; cases e
      · obtain ⟨rfl, hst⟩ := ref_sorted hm hp hs ho
        obtain ⟨a, b⟩ := (both_iff (fun n hn => hm n (hp.mem_iff.1 hn)) hst).2 ⟨hrt, hrc⟩
        rcases hf with hf | ⟨_, hf⟩
        · rw [a] at hf; cases hf
        · rw [b] at hf; cases hf
  · have hms : ∀ n ∈ s, mayN n = true := fun n hn => hm n (hp.mem_iff.1 hn)
    rcases h' with ⟨rfl, rfl, hf⟩ | ⟨rfl, out, ho, hrt, hrc, rfl⟩
    · exfalso
      rcases hf with hf | ⟨out, ho, hf⟩
      · rcases refIns_none l [] hf with ⟨n, hn, e⟩ | hd
        · rw [hm n hn] at e; cases e
        · rw [List.nil_append] at hd
          exact hd ((hp.map pth).nodup_iff.1 (strict_nodup (placed_strict (fun n hn => mayN_ok (hms n hn)) hpl)))
      · obtain ⟨rfl, hst⟩ := ref_sorted hm hp hs ho
        obtain ⟨a, b⟩ := (both_iff hms hst).1 ⟨hpl, hin⟩
        rcases hf with hf | ⟨_, hf⟩
        · rw [a] at hf; cases hf
        · rw [b] at hf; cases hf
    · obtain ⟨rfl, _⟩ := ref_sorted hm hp hs ho
      exact ⟨rfl, label_same s⟩
end Go.Proofs.YtiloadafnalhpaaDoor
