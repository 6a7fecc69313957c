/-
  The walk of path.Split.
  The walk of archive.may.
-/
import Derived.Test.YtiloadafnalhpaaDoorJ1
import Derived.Test.YtiloadafnalhpaaDoorShelf
import Derived.Test.YtiloadafnalhpaaDoorPAx0
namespace Go.Proofs.YtiloadafnalhpaaDoor
open Go.RowKit Go.Proofs.YtiloadafnalhpaaDoorW.PrintWords Go.Proofs.YtiloadafnalhpaaDoorW.PrintLast Go.Proofs.YtiloadafnalhpaaDoorW.PrintMore
set_option linter.unusedVariables false
set_option linter.unusedSimpArgs false

/-- The library's variable internal/bytealg.MaxLen holds some number. -/
def MaxCell (w : World) : Prop := ∃ m : Int, w.cell? ⟨0, 0, none⟩ = some (.int .i64 m)
theorem MaxCell.below {w w' : World} (h : MaxCell w) (hb : Below w.heap.size w w') : MaxCell w' := by
  obtain ⟨m, hm⟩ := h; exact ⟨m, pw_cell_below hb hm⟩
theorem MaxCell.drop {B : Nat} {w w' : World} (h : MaxCell w) (h0 : 0 < B) (hb : Below B w w') : MaxCell w' := by
  obtain ⟨m, hm⟩ := h; exact ⟨m, (hb.cell (p := ⟨0, 0, none⟩) h0).trans hm⟩

theorem splitE_long {l : List UInt8} (h : 255 < l.length) : splitE l = 4 := by simp [splitE, h]
theorem splitE_nil : splitE [] = 40 := rfl
theorem splitE_root : splitE [47] = 0 := rfl
theorem splitE_head {l : List UInt8} (h : l.length ≤ 255) (hn : l.head? ≠ some 47) : splitE l = 40 := by
  unfold splitE; rw [if_neg (by omega)]; by_cases e : l = [] <;> simp [e, hn]
theorem splitE_rest {l : List UInt8} (h : l.length ≤ 255) (hn : l.head? = some 47) (h1 : l ≠ [47]) : splitE l = namesE (segs l.tail) := by
  unfold splitE; rw [if_neg (by omega), if_neg (by rintro rfl; cases hn), if_neg (by simp [hn]), if_neg h1]

theorem ret_tuple2 {v : Value} {k : IntKind} {a b : Int} (h : a = b) : Ending.returned (.tuple #[v, .int k a]) = .returned (.tuple #[v, .int k b]) := by rw [h]

set_option maxHeartbeats 8000000 in
set_option maxRecDepth 100000 in
theorem split_calls (s : ByteArray) (w : World) (hs : s.size ≤ 9223372036854775807) (hM : MaxCell w) :
    Calls Tryd.prog 20 #[.string s] w fun e w' => ∃ v : Value, e = .returned (.tuple #[v, .int .i64 (splitE s.data.toList)]) ∧ Below w.heap.size w w' := by
  have hlen := toList_size s
  have tl : s.toList = s.data.toList := ByteArray.toList_eq s
  by_cases h255 : 255 < s.size
  · rw [splitE_long (by omega)]
    clear hlen tl
    go_enter Tryd.func20, Tryd.ntmps20
    go_wp2
    go_ret2
    exact ⟨_, rfl, Below.refl _ _⟩
  · by_cases h0 : s.data.toList = []
    · rw [h0, splitE_nil]
      have e0' : (!s.toList.isEmpty) = false := by rw [tl, h0]; rfl
      have e0 : s.toList = [] := tl.trans h0
      clear tl h0 hlen
      go_enter Tryd.func20, Tryd.ntmps20
      go_wp2
      go_ret2
      exact ⟨_, rfl, Below.refl _ _⟩
    · have e0' : (!s.toList.isEmpty) = true := by rw [tl]; cases h : s.data.toList <;> simp_all
      have e0 : (s.toList == ([] : List UInt8)) = false := by rw [tl]; exact beq_eq_false_iff_ne.mpr h0
      have hpos : 0 < s.size := by rw [← hlen]; exact List.length_pos_iff.mpr h0
      by_cases h47 : s.data.toList.head? = some 47
      · have hb : (s[0]'hpos) = 47 := by
          have : s.data.toList[0]? = some 47 := by rw [← List.head?_eq_getElem?]; exact h47
          rw [List.getElem?_eq_getElem (by omega)] at this
          exact Option.some.inj this
        have hb' : (((s[0]'hpos).toNat : Int) != 47) = false := by rw [hb]; rfl
        by_cases h1 : s.data.toList = [47]
        · rw [h1, splitE_root]
          have e1 : (s.toList == ([47] : List UInt8)) = true := by rw [tl, h1]; rfl
          clear tl h0 hlen h47 h1 hb
          go_enter Tryd.func20, Tryd.ntmps20
          go_wp2
          go_ret2
          exact ⟨_, rfl, Below.refl _ _⟩
        · have e1 : (s.toList == ([47] : List UInt8)) = false := by rw [tl]; exact beq_eq_false_iff_ne.mpr h1
          rw [splitE_rest (by omega) h47 h1]
          obtain ⟨r, HR⟩ : ∃ r : Int, Aside0 (namesE (segs s.data.toList.tail) = r) := ⟨_, ⟨rfl⟩⟩
          rw [HR.out]
          obtain ⟨m, hm⟩ := hM
          have hsp : ∀ W : World, W.cell? ⟨0, 0, none⟩ = some (.int .i64 m) → _ := fun W hW => Tryd.strings_Split (s.extract 1 s.size) ⟨#[47]⟩ m W (by simp; omega) hW (by decide)
          have hseg := splitB_segs (s.extract 1 s.size)
          have hcnt := splitB_count (s.extract 1 s.size)
          have hx : (s.extract 1 s.size).data.toList = s.data.toList.tail := by
            rw [Lib.extract_to_end s 1]; simp
          rw [hx] at hseg
          generalize Lib.splitB ⟨#[47]⟩ 0 (Lib.countB (s.extract 1 s.size) ⟨#[47]⟩) (s.extract 1 s.size) = ps at hsp hseg hcnt
          obtain ⟨n, hn⟩ : ∃ n, Lib.countB (s.extract 1 s.size) ⟨#[47]⟩ = n := ⟨_, rfl⟩
          have hnb : n ≤ 255 := by
            have h1 := Lib.countB_le ⟨#[47]⟩ (by decide) _ (s.extract 1 s.size) (Nat.le_refl _)
            rw [hn] at h1
            simp at h1; omega
          rw [hn] at hsp hcnt
          have HSEG := Aside0.mk hseg
          have HCNT := Aside0.mk hcnt
          clear tl h0 hlen h47 h1 hb hseg hcnt hx hn
          go_enter Tryd.func20, Tryd.ntmps20
          go_wp2_with (go_at_call 33; refine (hsp _ hm).mono ?_; rintro e w' ⟨rfl, rfl⟩)
          have hnx : ∀ k : Nat, k < n + 1 → ∃ x : ByteArray, ps[k]? = some x ∧ x.size ≤ 9223372036854775807 ∧ namesE ((ps.map (·.data.toList)).drop k) = if nameE x.data.toList = 0 then namesE ((ps.map (·.data.toList)).drop (k + 1)) else nameE x.data.toList := by
            intro k hk
            have hkl : k < ps.length := by have := HCNT.out; omega
            refine ⟨ps[k], List.getElem?_eq_getElem hkl, ?_, ?_⟩
            · have hm : ps[k].data.toList ∈ segs s.data.toList.tail := by rw [← HSEG.out]; exact List.mem_map_of_mem (List.getElem_mem hkl)
              have := segs_le _ _ hm
              simp at this; omega
            · rw [namesE_drop (by simpa using hkl)]; simp
          have HNX := Aside0.mk hnx
          clear hnx
          go_loopw [25] (fun i wr => ∃ k : Nat, i = .int .i64 k ∧ k ≤ n + 1 ∧ Aside0 (namesE ((ps.map (·.data.toList)).drop k) = r) ∧ Aside0 (Below (w.heap.size + 1) (w.alloc (.cells (ps.map Value.string).toArray 9)) wr)) (fun i _ => n + 1 - (intOf i).toNat)
          case atStart => exact ⟨0, rfl, Nat.zero_le _, ⟨by rw [List.drop_zero, HSEG.out, HR.out]⟩, ⟨Below.refl _ _⟩⟩
          case round =>
            obtain ⟨k, rfl, hk, HK, HB⟩ := hrel
            by_cases hlt : k < n + 1
            · obtain ⟨x, hpx, hxs, hnn⟩ := HNX.out k hlt
              have hcell : wr.cell? ⟨w.heap.size, k, none⟩ = some (.string x) := by
                rw [HB.out.cell (p := ⟨w.heap.size, k, none⟩) (Nat.lt_succ_self _), blk_cell (t := 9) (blk_new _ _) k]
                simp [hpx]
              have HN := Aside0.mk hnn
              clear hnn hpx
              by_cases hz : nameE x.data.toList = 0
              · have HN' : Aside0 (namesE ((ps.map (·.data.toList)).drop (k + 1)) = r) := ⟨by rw [← HK.out, HN.out, if_pos hz]⟩
                have hcon := fun W => name_calls x W hxs
                rw [hz] at hcon
                clear hz HN HK
                go_wp2_with (go_at_call 34; refine (hcon _).mono ?_; rintro e w1 ⟨rfl, hb1⟩)
                have HB1 := Aside0.mk hb1
                clear hb1
                go_roundw
                case rel => exact ⟨k + 1, by go_num, by omega, HN', ⟨below_then HB.out (by have := HB.out.size; simpa using this) HB1.out⟩⟩
                case measure => simp [intOf]; omega
              · have HN' : nameE x.data.toList = r := by rw [← HK.out, HN.out, if_neg hz]
                have hcon := fun W => name_calls x W hxs
                rw [HN'] at hcon hz
                have hz' : (r != 0) = true := bne_iff_ne.mpr hz
                clear hz HN HK HN'
                go_wp2_with (go_at_call 34; refine (hcon _).mono ?_; rintro e w1 ⟨rfl, hb1⟩)
                have HB1 := Aside0.mk hb1
                clear hb1
                go_ret2
                refine ⟨_, rfl, ?_⟩
                exact below_then ((Below.refl _ _).alloc (Nat.le_refl _) _) (by simp) ((below_then HB.out (by have := HB.out.size; simpa using this) HB1.out).mono (by simp))
            · obtain rfl : k = n + 1 := by omega
              have HR0 : r = 0 := by
                rw [← HK.out, List.drop_eq_nil_of_le (by have := HCNT.out; simp; omega)]; rfl
              subst HR0
              clear HK
              go_wp2
              go_ret2
              refine ⟨_, rfl, ?_⟩
              exact below_then ((Below.refl _ _).alloc (Nat.le_refl _) _) (by simp) (HB.out.mono (by simp))
      · rw [splitE_head (by omega) h47]
        have hb : (s[0]'hpos) ≠ 47 := fun e => h47 (by rw [List.head?_eq_getElem?, List.getElem?_eq_getElem (by omega)]; exact congrArg some e)
        have hb' : (((s[0]'hpos).toNat : Int) != 47) = true := bne_iff_ne.mpr (fun e => hb (UInt8.toNat_inj.1 (by simpa using (by omega : (s[0]'hpos).toNat = 47))))
        clear tl h0 hlen h47 hb
        go_enter Tryd.func20, Tryd.ntmps20
        go_wp2
        go_ret2
        exact ⟨_, rfl, Below.refl _ _⟩
end Go.Proofs.YtiloadafnalhpaaDoor
namespace Go.Proofs.YtiloadafnalhpaaDoor
open Go.RowKit Go.Proofs.YtiloadafnalhpaaDoorW.PrintWords Go.Proofs.YtiloadafnalhpaaDoorW.PrintLast Go.Proofs.YtiloadafnalhpaaDoorW.PrintMore
open Go.Proofs.YtiloadafnalhpaaDoor.PA
set_option linter.unusedVariables false
set_option linter.unusedSimpArgs false

/-- May a node be, in itself? -/
def mayP (p d : List UInt8) (kind : Int) : Bool :=
  splitE p == 0 && (if kind = 2 then d == [] else if kind = 3 then splitE d == 0 else if kind = 1 then decide (d.length ≤ 5675264) else false)

theorem mayP_no {p d : List UInt8} {kind : Int} (h : splitE p ≠ 0) : mayP p d kind = false := by simp [mayP, h]
theorem mayP_yes {p d : List UInt8} {kind : Int} (h : splitE p = 0) : mayP p d kind = (if kind = 2 then d == [] else if kind = 3 then splitE d == 0 else if kind = 1 then decide (d.length ≤ 5675264) else false) := by simp [mayP, h]

theorem box_cell {w w1 : World} {cs : Array Value} {T : TypeId} (hb : Below (w.alloc (.cells cs T)).heap.size (w.alloc (.cells cs T)) w1) (i : Nat) : w1.cell? ⟨w.heap.size, i, none⟩ = cs[i]? := by
  rw [hb.cell (p := ⟨w.heap.size, i, none⟩) (by show w.heap.size < _; simp), blk_cell (t := T) (blk_new _ _) i]
theorem box_below {w w1 : World} {o : Obj} (hb : Below (w.alloc o).heap.size (w.alloc o) w1) : Below w.heap.size w w1 :=
  below_then ((Below.refl _ _).alloc (Nat.le_refl _) _) (by simp) hb

theorem ret_bool {a b : Bool} (h : a = b) : Ending.returned (.bool a) = .returned (.bool b) := by rw [h]

set_option maxHeartbeats 8000000 in
set_option maxRecDepth 100000 in
theorem may_calls (p d : ByteArray) (n0 n1 kd n3 n4 : Int) (w : World) (hp : p.size ≤ 9223372036854775807) (hd : d.size ≤ 9223372036854775807) (hM : MaxCell w) (hw0 : 0 < w.heap.size) :
    Calls Tryd.prog 9 #[.agg #[.string p, .int .i64 n0, .int .i64 n1, .int .i64 kd, .int .i64 n3, .int .i64 n4, .string d]] w fun e w' =>
      e = .returned (.bool (mayP p.data.toList d.data.toList kd)) ∧ Below w.heap.size w w' := by
  have hsp := fun (x : ByteArray) (W : World) (h : x.size ≤ 9223372036854775807) (h' : MaxCell W) => split_calls x W h h'
  have hsp0 := fun (W : World) (h' : MaxCell W) => split_calls p W hp h'
  have tl := ByteArray.toList_eq d
  have hlen := toList_size d
  have hM1 : MaxCell (w.alloc (.cells #[.string p, .int .i64 n0, .int .i64 n1, .int .i64 kd, .int .i64 n3, .int .i64 n4, .string d] 33)) := hM.drop hw0 ((Below.refl _ _).alloc (Nat.le_refl _) _)
  by_cases h0 : splitE p.data.toList = 0
  · rw [mayP_yes h0]
    rw [h0] at hsp0
    clear h0
    by_cases hk2 : kd = 2
    · rw [if_pos hk2]
      obtain ⟨r, hr⟩ : ∃ r : Bool, (d.data.toList == []) = r := ⟨_, rfl⟩
      rw [hr]
      have hr' : (d.toList == ([] : List UInt8)) = r := by rw [tl]; exact hr
      have hr2 : (!d.toList.isEmpty) = !r := by rw [← hr, tl]; cases d.data.toList <;> rfl
      subst hk2
      clear tl hlen hr
      go_enter Tryd.func9, Tryd.ntmps9
      go_wp2_with (go_at_call 20; refine (hsp0 _ hM1).mono ?_; rintro e w1 ⟨v1, rfl, hb1⟩; have hc3 : w1.cell? ⟨w.heap.size, 3, none⟩ = some (.int .i64 2) := box_cell hb1 3; have hc6 : w1.cell? ⟨w.heap.size, 6, none⟩ = some (.string d) := box_cell hb1 6; have HB := Aside0.mk (box_below hb1); clear hb1)
      go_ret
      refine ⟨ret_bool ?_, HB.out⟩
      first | rfl | assumption | (rw [← hr']) | (simp [*])
    · rw [if_neg hk2]
      have hk2' : (kd == 2) = false := beq_eq_false_iff_ne.mpr hk2
      by_cases hk3 : kd = 3
      · rw [if_pos hk3]
        subst hk3
        clear tl hlen hk2 hk2'
        obtain ⟨r, hr⟩ : ∃ r : Int, splitE d.data.toList = r := ⟨_, rfl⟩
        have hsd := fun (W : World) (h' : MaxCell W) => split_calls d W hd h'
        rw [hr] at hsd ⊢
        clear hr
        go_enter Tryd.func9, Tryd.ntmps9
        go_wp2_with (first
          | (go_at_call 20; (with_reducible refine (hsp0 _ hM1).mono ?_); rintro e w1 ⟨v1, rfl, hb1⟩; have hc3 : w1.cell? ⟨w.heap.size, 3, none⟩ = some (.int .i64 3) := box_cell hb1 3; have hc6 : w1.cell? ⟨w.heap.size, 6, none⟩ = some (.string d) := box_cell hb1 6; have HB := Aside0.mk (box_below hb1); have hM2 : MaxCell w1 := hM1.below hb1; clear hb1)
          | (go_at_call 20; (with_reducible refine (hsd _ hM2).mono ?_); rintro e w2 ⟨v2, rfl, hb2⟩; have HB2 := Aside0.mk hb2; clear hb2))
        go_ret
        refine ⟨ret_bool ?_, below_then HB.out HB.out.size HB2.out⟩
        rfl
      · rw [if_neg hk3]
        have hk3' : (kd == 3) = false := beq_eq_false_iff_ne.mpr hk3
        by_cases hk1 : kd = 1
        · rw [if_pos hk1]
          obtain ⟨r, hr⟩ : ∃ r : Bool, decide (d.data.toList.length ≤ 5675264) = r := ⟨_, rfl⟩
          rw [hr]
          have hr' : decide ((d.size : Int) ≤ 5675264) = r := by rw [← hr, hlen]; simp only [decide_eq_decide]; omega
          subst hk1
          clear tl hlen hr hk2 hk2' hk3 hk3'
          go_enter Tryd.func9, Tryd.ntmps9
          go_wp2_with (go_at_call 20; refine (hsp0 _ hM1).mono ?_; rintro e w1 ⟨v1, rfl, hb1⟩; have hc3 : w1.cell? ⟨w.heap.size, 3, none⟩ = some (.int .i64 1) := box_cell hb1 3; have hc6 : w1.cell? ⟨w.heap.size, 6, none⟩ = some (.string d) := box_cell hb1 6; have HB := Aside0.mk (box_below hb1); clear hb1)
          go_ret
          refine ⟨ret_bool ?_, HB.out⟩
          first | rfl | assumption | (rw [← hr']) | (simp [*])
        · rw [if_neg hk1]
          have hk1' : (kd == 1) = false := beq_eq_false_iff_ne.mpr hk1
          clear tl hlen hk1 hk2 hk3
          go_enter Tryd.func9, Tryd.ntmps9
          go_wp2_with (go_at_call 20; refine (hsp0 _ hM1).mono ?_; rintro e w1 ⟨v1, rfl, hb1⟩; have hc3 : w1.cell? ⟨w.heap.size, 3, none⟩ = some (.int .i64 kd) := box_cell hb1 3; have hc6 : w1.cell? ⟨w.heap.size, 6, none⟩ = some (.string d) := box_cell hb1 6; have HB := Aside0.mk (box_below hb1); clear hb1)
          go_ret
          exact ⟨rfl, HB.out⟩
  · rw [mayP_no h0]
    have hz' : (splitE p.data.toList != 0) = true := bne_iff_ne.mpr h0
    clear h0 tl hlen
    go_enter Tryd.func9, Tryd.ntmps9
    go_wp2_with (go_at_call 20; refine (hsp0 _ hM1).mono ?_; rintro e w1 ⟨v1, rfl, hb1⟩)
    go_ret
    exact ⟨rfl, box_below hb1⟩
end Go.Proofs.YtiloadafnalhpaaDoor
