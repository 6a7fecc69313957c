/-
  The walk of archive.placed.
-/
import Derived.Test.YtiloadafnalhpaaDoorJ4
import Derived.Carry
namespace Go.Proofs.YtiloadafnalhpaaDoor
open Go.RowKit Go.Proofs.YtiloadafnalhpaaDoorW.PrintWords Go.Proofs.YtiloadafnalhpaaDoorW.PrintLast Go.Proofs.YtiloadafnalhpaaDoorW.PrintMore
open Go.Proofs.YtiloadafnalhpaaDoor.PA Go.Shelf Go.Sort Go.Maps Go.ChangeMaps Go.WideMaps
set_option linter.unusedVariables false
set_option linter.unusedSimpArgs false

/-- Is a directory of this path among these nodes? -/
def hasDir (l : List Nd) (p : List UInt8) : Bool := l.any fun n => n.f1.f2 == 2 && pth n == p
/-- How many they are. -/
def dirs (l : List Nd) (p : List UInt8) : Int := (l.filter fun n => n.f1.f2 == 2 && pth n == p).length
theorem dirs_zero (l : List Nd) (p : List UInt8) : (dirs l p == 0) = !hasDir l p := by
  unfold dirs hasDir
  by_cases h : (l.any fun n => n.f1.f2 == 2 && pth n == p) = true
  · rw [h]; simp only [Bool.not_true, beq_eq_false_iff_ne, ne_eq]
    obtain ⟨x, hx, hp⟩ := List.any_eq_true.1 h
    have : 0 < (l.filter fun n => n.f1.f2 == 2 && pth n == p).length := List.length_pos_of_mem (List.mem_filter.2 ⟨hx, hp⟩)
    omega
  · have h' : (l.any fun n => n.f1.f2 == 2 && pth n == p) = false := by simpa using h
    rw [h']; simp only [Bool.not_false, beq_iff_eq]
    have : (l.filter fun n => n.f1.f2 == 2 && pth n == p) = [] := List.filter_eq_nil_iff.2 fun x hx hp => by
      have := List.any_eq_false.1 h' x hx; exact this hp
    rw [this]; rfl
theorem dirs_le (l : List Nd) (p : List UInt8) : 0 ≤ dirs l p ∧ dirs l p ≤ l.length := by
  unfold dirs; have := List.length_filter_le (fun n : Nd => n.f1.f2 == 2 && pth n == p) l; omega
theorem dirs_snoc (l : List Nd) (n : Nd) (p : List UInt8) : dirs (l ++ [n]) p = dirs l p + if n.f1.f2 = 2 ∧ pth n = p then 1 else 0 := by
  unfold dirs
  rw [List.filter_append]
  by_cases h : n.f1.f2 = 2 ∧ pth n = p
  · rw [if_pos h]; simp [List.filter_cons, h.1, h.2]
  · rw [if_neg h]
    have : (n.f1.f2 == 2 && pth n == p) = false := by
      rw [Bool.and_eq_false_iff]
      by_cases h2 : n.f1.f2 = 2
      · exact .inr (beq_eq_false_iff_ne.mpr fun e => h ⟨h2, e⟩)
      · exact .inl (beq_eq_false_iff_ne.mpr h2)
    simp [List.filter_cons, this]

/-- May the node stand at its place, behind those? -/
def placedAt (before : List Nd) (n : Nd) : Bool :=
  match before.getLast? with
  | none => pth n == [47]
  | some x => pth n != [47] && decide (ordL (pth x) (pth n) < 0) && hasDir before (aboveB n.f0).data.toList
def placedFrom : List Nd → List Nd → Bool
  | _, [] => true
  | before, n :: l => placedAt before n && placedFrom (before ++ [n]) l
def placedB (l : List Nd) : Bool := placedFrom [] l && (match l with | [] => false | n :: _ => n.f1.f2 == 2)

/-- What the map of directories holds. -/
def dirsK (l : List Nd) : Lit → Int
  | .string p => dirs l p
  | _ => 0

/-- A node's seven cells at a place. -/
def NodeAt (w : World) (b o : Nat) (x : Nd) : Prop :=
  w.cell? ⟨b, o, none⟩ = some (.string x.f0) ∧ w.cell? ⟨b, o + 1, none⟩ = some (.int .i64 x.f1.f0) ∧ w.cell? ⟨b, o + 2, none⟩ = some (.int .i64 x.f1.f1) ∧ w.cell? ⟨b, o + 3, none⟩ = some (.int .i64 x.f1.f2) ∧ w.cell? ⟨b, o + 4, none⟩ = some (.int .i64 x.f1.f3) ∧ w.cell? ⟨b, o + 5, none⟩ = some (.int .i64 x.f1.f4) ∧ w.cell? ⟨b, o + 6, none⟩ = some (.string x.f2)
theorem RowN.node {w : World} {g cap : Nat} {ns : List Nd} (h : RowN w g cap ns) (i : Nat) (x : Nd) (hx : ns[i]? = some x) : NodeAt w g (i * 7) x :=
  ⟨h.cell i 0 x hx (by omega), h.cell i 1 x hx (by omega), h.cell i 2 x hx (by omega), h.cell i 3 x hx (by omega), h.cell i 4 x hx (by omega), h.cell i 5 x hx (by omega), h.cell i 6 x hx (by omega)⟩

theorem take_snoc_nd {ns : List Nd} {k : Nat} {x : Nd} (hx : ns[k]? = some x) : ns.take (k + 1) = ns.take k ++ [x] := by
  obtain ⟨hk, e⟩ := List.getElem?_eq_some_iff.1 hx
  rw [List.take_succ_eq_append_getElem hk, e]
theorem drop_cons_nd {ns : List Nd} {k : Nat} {x : Nd} (hx : ns[k]? = some x) : ns.drop k = x :: ns.drop (k + 1) := by
  obtain ⟨hk, e⟩ := List.getElem?_eq_some_iff.1 hx
  rw [List.drop_eq_getElem_cons hk, e]
open Classical in
theorem dirsK_dir {ns : List Nd} {k : Nat} {x : Nd} (hx : ns[k]? = some x) (h2 : x.f1.f2 = 2) (kk : Lit) : (if kk = .string (pth x) then dirs (ns.take k) (pth x) + 1 else dirsK (ns.take k) kk) = dirsK (ns.take (k + 1)) kk := by
  rw [take_snoc_nd hx]
  cases kk with
  | string p =>
    show (if Lit.string p = .string (pth x) then dirs (ns.take k) (pth x) + 1 else dirs (ns.take k) p) = dirs (ns.take k ++ [x]) p
    rw [dirs_snoc]
    by_cases e : p = pth x
    · subst e; simp [h2]
    · rw [if_neg (by simpa using e), if_neg (fun h => e h.2.symm)]; simp
  | _ => simp [dirsK]
theorem dirsK_not {ns : List Nd} {k : Nat} {x : Nd} (hx : ns[k]? = some x) (h2 : x.f1.f2 ≠ 2) (kk : Lit) : dirsK (ns.take k) kk = dirsK (ns.take (k + 1)) kk := by
  rw [take_snoc_nd hx]
  cases kk with
  | string p =>
    show dirs (ns.take k) p = dirs (ns.take k ++ [x]) p
    rw [dirs_snoc, if_neg (fun h => h2 h.1)]; simp
  | _ => rfl
theorem placed_step {ns : List Nd} {k : Nat} {x : Nd} (hx : ns[k]? = some x) (hK : placedFrom (ns.take k) (ns.drop k) = placedFrom [] ns) (h : placedAt (ns.take k) x = true) : placedFrom (ns.take (k + 1)) (ns.drop (k + 1)) = placedFrom [] ns := by
  rw [← hK, drop_cons_nd hx, take_snoc_nd hx]
  show _ = (placedAt (ns.take k) x && placedFrom (ns.take k ++ [x]) (ns.drop (k + 1)))
  rw [h, Bool.true_and]
theorem placed_false {ns : List Nd} {k : Nat} {x : Nd} (hx : ns[k]? = some x) (hK : placedFrom (ns.take k) (ns.drop k) = placedFrom [] ns) (h : placedAt (ns.take k) x = false) : placedB ns = false := by
  unfold placedB
  rw [← hK, drop_cons_nd hx]
  show ((placedAt (ns.take k) x && placedFrom (ns.take k ++ [x]) (ns.drop (k + 1))) && _) = false
  rw [h, Bool.false_and, Bool.false_and]
theorem placedAt_first (x : Nd) : placedAt [] x = (pth x == [47]) := rfl
theorem placedAt_next {ns : List Nd} {k : Nat} {y : Nd} (hy : ns[k]? = some y) (x : Nd) : placedAt (ns.take (k + 1)) x = (pth x != [47] && decide (ordL (pth y) (pth x) < 0) && hasDir (ns.take (k + 1)) (aboveB x.f0).data.toList) := by
  unfold placedAt
  have : (ns.take (k + 1)).getLast? = some y := by rw [take_snoc_nd hy]; simp
  rw [this]
theorem aboveB_size (s : ByteArray) (h : s.size ≤ 255) : (aboveB s).size ≤ 9223372036854775807 := by
  unfold aboveB; split
  · show (1 : Nat) ≤ _; omega
  · rw [ByteArray.size_extract]; omega
theorem ret_bool2 {a b : Bool} (h : a = b) : Ending.returned (.bool b) = .returned (.bool a) := by rw [h]

set_option maxHeartbeats 16000000 in
set_option maxRecDepth 100000 in
theorem placed_calls {w : World} {g cap : Nat} {ns : List Nd} (h : RowN w g cap ns) (hok : ∀ n ∈ ns, okPath n) (hab : ∀ n ∈ ns, 0 ≤ Lib.lastIndexByte n.f0 47) (hb : ns.length ≤ 1000000) :
    Calls Tryd.prog 13 #[.slice (some ⟨g, 0, none⟩) ns.length cap] w fun e w' => e = .returned (.bool (placedB ns)) ∧ Go.RowKit.Below w.heap.size w w' := by
  have hmm := @run_makeMap Tryd.prog
  have hlt := h.lt
  have HR := Aside0.mk h
  have HOK := Aside0.mk hok
  have HAB := Aside0.mk hab
  clear h hok hab
  go_enter Tryd.func13, Tryd.ntmps13
  go_wp2
  go_loopw [9] (fun i wr => ∃ k : Nat, i = .int .i64 k ∧ k ≤ ns.length ∧ Aside0 (placedFrom (ns.take k) (ns.drop k) = placedFrom [] ns) ∧ Aside0 (MapI wr 9 w.heap.size k (dirsK (ns.take k))) ∧ Aside0 (Go.RowKit.Below w.heap.size w wr)) (fun i _ => ns.length - (intOf i).toNat)
  case atStart => exact ⟨0, rfl, Nat.zero_le _, ⟨by simp⟩, ⟨(MapI.made _ _).congr (fun k _ => by cases k <;> rfl)⟩, ⟨(Below.refl _ _).alloc (Nat.le_refl _) _⟩⟩
  case round =>
    obtain ⟨k, rfl, hk, HK, HM, HB⟩ := hrel
    by_cases hkl : k < ns.length
    · obtain ⟨x, hx⟩ : ∃ x, ns[k]? = some x := ⟨_, List.getElem?_eq_getElem hkl⟩
      obtain ⟨n0, n1, n2, n3, n4, n5, n6⟩ := (HR.out.below HB.out).node k x hx
      have hxm := List.mem_of_getElem? hx
      have HX := Aside0.mk hx
      have hxs : x.f0.size ≤ 255 := by have := (HOK.out x hxm).2; simp [pth] at this; omega
      have hxa := HAB.out x hxm
      have tl := ByteArray.toList_eq x.f0
      clear hx hxm
      -- what a directory adds to the map, wherever the round stands then
      have hputs : ∀ nq, ∃ w2, (Instr.mapUpdate 52 (.map (some w.heap.size)) (.string x.f0) (.int .i64 (dirs (ns.take k) (pth x) + 1))).run Tryd.prog ((wr.alloc (.cells #[.string x.f0, .int .i64 x.f1.f0, .int .i64 x.f1.f1, .int .i64 x.f1.f2, .int .i64 x.f1.f3, .int .i64 x.f1.f4, .string x.f2] 33)).drewN nq) = .ok () w2 ∧
          (x.f1.f2 = 2 → Aside0 (MapI w2 9 w.heap.size (k + 1) (dirsK (ns.take (k + 1))))) ∧ Aside0 (Go.RowKit.Below w.heap.size w w2) := by
        intro nq
        have hd := dirs_le (ns.take k) (pth x)
        have hm : MapI ((wr.alloc (.cells #[.string x.f0, .int .i64 x.f1.f0, .int .i64 x.f1.f1, .int .i64 x.f1.f2, .int .i64 x.f1.f3, .int .i64 x.f1.f4, .string x.f2] 33)).drewN nq) 9 w.heap.size k (dirsK (ns.take k)) := (HM.out.below ((Below.refl _ _).alloc (Nat.le_refl _) _)).drewN nq
        obtain ⟨w2, hrun, h1, h2⟩ := hm.put kStr Tryd.underlying52 (by unfold maxLen; omega) (keyStr x.f0 (by omega)) trivial (dirs (ns.take k) (pth x) + 1) (WalkArith.wf_i64 (by simp at hd; omega))
        refine ⟨w2, hrun, fun hk2 => ⟨h1.congr (fun kk _ => dirsK_dir HX.out hk2 kk)⟩, ⟨(pw_below_drewN (HB.out.alloc HB.out.size _) nq).grown h2 (by have := HB.out.size; simp; omega) (fun j hj => by injection hj with hj; omega)⟩⟩
      have hlooks : ∀ nq, (Instr.lookup 52 (.map (some w.heap.size)) (.string x.f0) false).run Tryd.prog ((wr.alloc (.cells #[.string x.f0, .int .i64 x.f1.f0, .int .i64 x.f1.f1, .int .i64 x.f1.f2, .int .i64 x.f1.f3, .int .i64 x.f1.f4, .string x.f2] 33)).drewN nq) = .ok (.int .i64 (dirs (ns.take k) (pth x))) ((wr.alloc (.cells #[.string x.f0, .int .i64 x.f1.f0, .int .i64 x.f1.f1, .int .i64 x.f1.f2, .int .i64 x.f1.f3, .int .i64 x.f1.f4, .string x.f2] 33)).drewN nq) := by
        intro nq
        have hm : MapI ((wr.alloc (.cells #[.string x.f0, .int .i64 x.f1.f0, .int .i64 x.f1.f1, .int .i64 x.f1.f2, .int .i64 x.f1.f3, .int .i64 x.f1.f4, .string x.f2] 33)).drewN nq) 9 w.heap.size k (dirsK (ns.take k)) := (HM.out.below ((Below.refl _ _).alloc (Nat.le_refl _) _)).drewN nq
        exact hm.look kStr Tryd.underlying52 (keyStr x.f0 (by omega)) trivial
      have hd := dirs_le (ns.take k) (pth x)
      have hd1 : dirs (ns.take k) (pth x) ≤ 1000000 := by have := hd.2; simp at this; omega
      have hd0 := hd.1
      clear hd
      generalize dirs (ns.take k) (pth x) = c at hputs hlooks hd0 hd1
      have HL := Aside0.mk hlooks
      have HPU := Aside0.mk hputs
      have HBX : ∀ nq, Go.RowKit.Below w.heap.size w ((wr.alloc (.cells #[.string x.f0, .int .i64 x.f1.f0, .int .i64 x.f1.f1, .int .i64 x.f1.f2, .int .i64 x.f1.f3, .int .i64 x.f1.f4, .string x.f2] 33)).drewN nq) := fun nq => pw_below_drewN (HB.out.alloc HB.out.size _) nq
      have HBX := Aside0.mk HBX
      clear hlooks hputs
      by_cases hk0 : k = 0
      · subst hk0
        by_cases hp : pth x = [47]
        · have hp' : (x.f0.toList == ([47] : List UInt8)) = true := by rw [tl]; exact beq_iff_eq.mpr hp
          have HOKK : Aside0 (placedAt (ns.take 0) x = true) := ⟨by rw [List.take_zero, placedAt_first]; exact beq_iff_eq.mpr hp⟩
          clear tl hp
          go_wp2
          go_quiet (fail)
          by_cases hk2 : x.f1.f2 = 2
          · have hk2' : (x.f1.f2 == 2) = true := beq_iff_eq.mpr hk2
            have hrl := HL.out nq
            obtain ⟨w2, hrun, hM2, hB2⟩ := HPU.out nq
            have hM2 := hM2 hk2
            clear hk2
            go_wp2
            go_roundw
            case rel => exact ⟨_, by go_num, by omega, ⟨placed_step HX.out HK.out HOKK.out⟩, hM2, hB2⟩
            case measure => simp [intOf]; omega
          · have hk2' : (x.f1.f2 == 2) = false := beq_eq_false_iff_ne.mpr hk2
            have HN2 := Aside0.mk hk2
            clear hk2
            go_wp2
            go_roundw
            case rel => exact ⟨_, by go_num, by omega, ⟨placed_step HX.out HK.out HOKK.out⟩, ⟨(((HM.out.below ((Below.refl _ _).alloc (Nat.le_refl _) _)).drewN _).mono (Nat.le_succ _)).congr (fun kk _ => dirsK_not HX.out HN2.out kk)⟩, ⟨HBX.out _⟩⟩
            case measure => simp [intOf]; omega
        · have hp' : (x.f0.toList == ([47] : List UInt8)) = false := by rw [tl]; exact beq_eq_false_iff_ne.mpr hp
          have HOKK : Aside0 (placedAt (ns.take 0) x = false) := ⟨by rw [List.take_zero, placedAt_first]; exact beq_eq_false_iff_ne.mpr hp⟩
          clear tl hp
          go_wp2
          go_quiet (fail)
          go_wp2
          go_ret
          exact ⟨ret_bool2 (placed_false HX.out HK.out HOKK.out), HBX.out _⟩
      · obtain ⟨j, rfl⟩ : ∃ j, k = j + 1 := ⟨k - 1, by omega⟩
        have hk1 : (((j + 1 : Nat) : Int) == 0) = false := beq_eq_false_iff_ne.mpr (by omega)
        have hk1' : ((j : Int) + 1 == 0) = false := beq_eq_false_iff_ne.mpr (by omega)
        obtain ⟨y, hy⟩ : ∃ y, ns[j]? = some y := ⟨_, List.getElem?_eq_getElem (by omega)⟩
        have m0 : (wr.alloc (.cells #[.string x.f0, .int .i64 x.f1.f0, .int .i64 x.f1.f1, .int .i64 x.f1.f2, .int .i64 x.f1.f3, .int .i64 x.f1.f4, .string x.f2] 33)).cell? ⟨g, j * 7, none⟩ = some (.string y.f0) := (((HR.out.below HB.out).below ((Below.refl _ _).alloc (Nat.le_refl _) _)).node j y hy).1
        have hym := List.mem_of_getElem? hy
        have hys : y.f0.size ≤ 255 := by have := (HOK.out y hym).2; simp [pth] at this; omega
        have HN := Aside0.mk (placedAt_next hy x)
        clear hy hym
        by_cases hp : pth x = [47]
        · have hp' : (x.f0.toList == ([47] : List UInt8)) = true := by rw [tl]; exact beq_iff_eq.mpr hp
          have HOKK : Aside0 (placedAt (ns.take (j + 1)) x = false) := ⟨by rw [HN.out, hp]; rfl⟩
          clear tl hp
          go_wp2
          go_quiet (fail)
          go_wp2
          go_ret
          exact ⟨ret_bool2 (placed_false HX.out HK.out HOKK.out), HBX.out _⟩
        · have hp' : (x.f0.toList == ([47] : List UInt8)) = false := by rw [tl]; exact beq_eq_false_iff_ne.mpr hp
          have hpn : (pth x != [47]) = true := bne_iff_ne.mpr hp
          rw [hpn, Bool.true_and] at HN
          clear tl hp hpn
          have hord := fun W => order_calls y.f0 x.f0 W (by omega) (by omega)
          have habv := fun W => above_calls x.f0 W (by omega) hxa
          have hla : ∀ nq, (Instr.lookup 52 (.map (some w.heap.size)) (.string (aboveB x.f0)) false).run Tryd.prog ((wr.alloc (.cells #[.string x.f0, .int .i64 x.f1.f0, .int .i64 x.f1.f1, .int .i64 x.f1.f2, .int .i64 x.f1.f3, .int .i64 x.f1.f4, .string x.f2] 33)).drewN nq) = .ok (.int .i64 (dirs (ns.take (j + 1)) (aboveB x.f0).data.toList)) ((wr.alloc (.cells #[.string x.f0, .int .i64 x.f1.f0, .int .i64 x.f1.f1, .int .i64 x.f1.f2, .int .i64 x.f1.f3, .int .i64 x.f1.f4, .string x.f2] 33)).drewN nq) := by
            intro nq
            have hm : MapI ((wr.alloc (.cells #[.string x.f0, .int .i64 x.f1.f0, .int .i64 x.f1.f1, .int .i64 x.f1.f2, .int .i64 x.f1.f3, .int .i64 x.f1.f4, .string x.f2] 33)).drewN nq) 9 w.heap.size (j + 1) (dirsK (ns.take (j + 1))) := (HM.out.below ((Below.refl _ _).alloc (Nat.le_refl _) _)).drewN nq
            exact hm.look kStr Tryd.underlying52 (keyStr (aboveB x.f0) (aboveB_size x.f0 hxs)) trivial
          have hz := dirs_zero (ns.take (j + 1)) (aboveB x.f0).data.toList
          change ∀ W, Calls Tryd.prog 12 _ W (fun e w' => e = .returned (.int .i64 (ordL (pth y) (pth x))) ∧ _) at hord
          generalize dirs (ns.take (j + 1)) (aboveB x.f0).data.toList = c2 at hla hz
          generalize hasDir (ns.take (j + 1)) (aboveB x.f0).data.toList = hh at hz HN
          generalize ordL (pth y) (pth x) = r at hord HN
          by_cases hr : r < 0
          · have hdr : decide (0 ≤ r) = false := decide_eq_false (by omega)
            cases hh with
            | true =>
              have hz' : (c2 == 0) = false := hz
              have HOKK : Aside0 (placedAt (ns.take (j + 1)) x = true) := ⟨by rw [HN.out]; simp [hr]⟩
              clear hz
              go_wp2
              go_quiet ((first | (go_at_call 12; exact Calls.quiet_of (hord _)) | (go_at_call 23; exact Calls.quiet_of_same (habv _))))
              by_cases hk2 : x.f1.f2 = 2
              · have hk2' : (x.f1.f2 == 2) = true := beq_iff_eq.mpr hk2
                have hrl := HL.out nq
                obtain ⟨w2, hrun, hM2, hB2⟩ := HPU.out nq
                have hM2 := hM2 hk2
                clear hk2
                go_wp2
                go_roundw
                case rel => exact ⟨_, by go_num, by omega, ⟨placed_step HX.out HK.out HOKK.out⟩, hM2, hB2⟩
                case measure => simp [intOf]; omega
              · have hk2' : (x.f1.f2 == 2) = false := beq_eq_false_iff_ne.mpr hk2
                have HN2 := Aside0.mk hk2
                clear hk2
                go_wp2
                go_roundw
                case rel => exact ⟨_, by go_num, by omega, ⟨placed_step HX.out HK.out HOKK.out⟩, ⟨(((HM.out.below ((Below.refl _ _).alloc (Nat.le_refl _) _)).drewN _).mono (Nat.le_succ _)).congr (fun kk _ => dirsK_not HX.out HN2.out kk)⟩, ⟨HBX.out _⟩⟩
                case measure => simp [intOf]; omega
            | false =>
              have hz' : (c2 == 0) = true := hz
              have HOKK : Aside0 (placedAt (ns.take (j + 1)) x = false) := ⟨by rw [HN.out]; simp⟩
              clear hz
              go_wp2
              go_quiet ((first | (go_at_call 12; exact Calls.quiet_of (hord _)) | (go_at_call 23; exact Calls.quiet_of_same (habv _))))
              go_wp2
              go_ret
              exact ⟨ret_bool2 (placed_false HX.out HK.out HOKK.out), HBX.out _⟩
          · have hr' : 0 ≤ r := by omega
            have HOKK : Aside0 (placedAt (ns.take (j + 1)) x = false) := ⟨by rw [HN.out]; simp [hr]⟩
            clear hr hz
            go_wp2
            go_quiet ((first | (go_at_call 12; exact Calls.quiet_of (hord _)) | (go_at_call 23; exact Calls.quiet_of_same (habv _))))
            go_wp2
            go_ret
            exact ⟨ret_bool2 (placed_false HX.out HK.out HOKK.out), HBX.out _⟩
    · obtain rfl : k = ns.length := by omega
      have HF : placedFrom [] ns = true := by rw [← HK.out, List.drop_length]; rfl
      clear HK HM
      cases ns with
      | nil =>
        go_wp2
        go_ret
        exact ⟨rfl, HB.out⟩
      | cons x l =>
        obtain ⟨n0, n1, n2, n3, n4, n5, n6⟩ := (HR.out.below HB.out).node 0 x rfl
        have HP : placedB (x :: l) = (x.f1.f2 == 2) := by unfold placedB; rw [HF]; rfl
        have HP := Aside0.mk HP
        have hl1 : ((x :: l).length : Int) = l.length + 1 := by simp
        clear HF
        go_wp2
        go_ret
        exact ⟨ret_bool2 HP.out, HB.out⟩
end Go.Proofs.YtiloadafnalhpaaDoor
