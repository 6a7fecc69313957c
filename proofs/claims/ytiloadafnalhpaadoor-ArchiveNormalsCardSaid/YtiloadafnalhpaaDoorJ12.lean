/-
  The walk of archive.read at a text that holds one directory.
-/
import Derived.Test.YtiloadafnalhpaaDoorJ11
namespace Go.Proofs.YtiloadafnalhpaaDoor
open Go.RowKit Go.Proofs.YtiloadafnalhpaaDoorW.PrintWords Go.Proofs.YtiloadafnalhpaaDoorW.PrintLast Go.Proofs.YtiloadafnalhpaaDoorW.PrintMore
open Go.Proofs.YtiloadafnalhpaaDoor.PA
set_option linter.unusedVariables false
set_option linter.unusedSimpArgs false

/-- A text that holds one directory: its path p. -/
structure OneDir (s p : ByteArray) : Prop where
  size : s.size = 8 + 1 + 1 + p.size
  small : p.size ≤ 255
  head : s.extract 0 4 = ⟨#[65, 82, 67, 72]⟩
  count : numAt s 4 4 = 1
  kind : numAt s 8 1 = 2
  len : numAt s 9 1 = p.size
  path : s.extract 10 (10 + p.size) = p
def dirN (p : ByteArray) : Nd := ⟨p, ⟨1, 0, 2, 0, 0⟩, ⟨#[]⟩⟩
def dirL (p : ByteArray) (i : Nat) : List Nd := if i = 0 then [] else [dirN p]
def dirAtB (p : ByteArray) (i : Nat) : Nat := if i = 0 then 8 else 10 + p.size
theorem below_only {B g : Nat} {w a b : World} (h : Below B w a) (hB : B ≤ a.heap.size) (ho : a.grownBy b (some g)) (hg : B ≤ g) : Below B w b :=
  h.grown ho hB (fun k hk => by injection hk with hk; omega)
theorem own_only {w w' : World} {base g : Nat} {v : Value} {ns : List Nd} (h : OwnN w base v ns) (hg : w.grownBy w' (some g)) (hlt : g < base) : OwnN w' base v ns :=
  World.ownsRow.kept h hg (by
    rcases own_base' h with e | ⟨b, e, hb⟩
    · exact .inl e
    · exact .inr (by rw [e]; intro e2; injection e2 with e2; omega))
/-- The blocks of read: the list, the error, the reader. -/
def RdB (w : World) (s : ByteArray) (at_ : Nat) (v : Value) (ns : List Nd) (wr : World) : Prop :=
  wr.heap[w.heap.size]? = some (.cells #[v] 22 (0, 0)) ∧ wr.heap[w.heap.size + 1]? = some (.cells #[.int .i64 0] 24 (0, 0)) ∧ Rdr wr (w.heap.size + 1 + 1) s at_ ∧ OwnN wr (w.heap.size + 1 + 1 + 1) v ns ∧ Below w.heap.size w wr
theorem RdB.start (w : World) (s : ByteArray) : RdB w s 0 (.slice none 0 0) [] (((w.alloc (.cells #[.slice none 0 0] 22)).alloc (.cells #[.int .i64 0] 24)).alloc (.cells #[.string s, .int .i64 0] 91)) := by
  have s1 : (w.alloc (.cells #[.slice none 0 0] 22)).heap.size = w.heap.size + 1 := by simp
  have s2 : ((w.alloc (.cells #[.slice none 0 0] 22)).alloc (.cells #[.int .i64 0] 24)).heap.size = w.heap.size + 1 + 1 := by simp
  refine ⟨blk_alloc (blk_alloc (blk_new _ _) _) _, blk_alloc ?_ _, ?_, own_nil _ _ _ _, (((Below.refl _ _).alloc (Nat.le_refl _) _).alloc (by omega) _).alloc (by omega) _⟩
  · have := blk_new (w.alloc (.cells #[.slice none 0 0] 22)) (.cells #[.int .i64 0] 24); rwa [s1] at this
  · have := blk_new ((w.alloc (.cells #[.slice none 0 0] 22)).alloc (.cells #[.int .i64 0] 24)) (.cells #[.string s, .int .i64 0] 91); rw [s2] at this; exact this
/-- The reader went on; nothing else turned. -/
theorem RdB.read {w wr w' : World} {s : ByteArray} {at_ at2 : Nat} {v : Value} {ns : List Nd} (h : RdB w s at_ v ns wr) (hr : Rdr w' (w.heap.size + 1 + 1) s at2) (ho : wr.grownBy w' (some (w.heap.size + 1 + 1))) : RdB w s at2 v ns w' := by
  obtain ⟨h1, h2, h3, h4, h5⟩ := h
  have e : ∀ k, k ≠ w.heap.size + 1 + 1 → k < wr.heap.size → w'.heap[k]? = wr.heap[k]? := fun k hk hl => ho.block k hl (by intro e; injection e with e; exact hk e)
  exact ⟨(e _ (by omega) (blk_lt h1)).trans h1, (e _ (by omega) (blk_lt h2)).trans h2, hr, own_only h4 ho (by omega), below_only h5 h5.size ho (by omega)⟩
theorem RdB.alloc {w wr : World} {s : ByteArray} {at_ : Nat} {v : Value} {ns : List Nd} (h : RdB w s at_ v ns wr) (o : Obj) : RdB w s at_ v ns (wr.alloc o) :=
  h.read (h.2.2.1.below ((Below.refl _ _).alloc (Nat.le_refl _) o)) (only_alloc (World.grownBy.refl _ _) o)
theorem RdB.lt {w wr : World} {s : ByteArray} {at_ : Nat} {v : Value} {ns : List Nd} (h : RdB w s at_ v ns wr) : w.heap.size + 3 ≤ wr.heap.size := by have := h.2.2.1.lt; omega
/-- A node was appended, and the list laid. -/
theorem RdB.push {w wr w' : World} {s : ByteArray} {at_ : Nat} {v v' : Value} {ns ns' : List Nd} (h : RdB w s at_ v ns wr) (hg : wr.grownBy w' v.ownBlock) (hown : OwnN w' (w.heap.size + 1 + 1 + 1) v' ns') : RdB w s at_ v' ns' (w'.setCell ⟨w.heap.size, 0, none⟩ v') := by
  obtain ⟨h1, h2, h3, h4, h5⟩ := h
  have hne : ∀ k, k ≤ w.heap.size + 1 + 1 → some k ≠ v.ownBlock := fun k hk e => by have := own_base h4 k e.symm; omega
  have e : ∀ k, k ≤ w.heap.size + 1 + 1 → k < wr.heap.size → w'.heap[k]? = wr.heap[k]? := fun k hk hl => hg.block k hl (hne k hk)
  have k1 := (e _ (by omega) (blk_lt h1)).trans h1
  have k2 := (e _ (by omega) (blk_lt h2)).trans h2
  have k3 := (e _ (Nat.le_refl _) h3.lt).trans h3
  refine ⟨(blk_set k1 0 v').trans rfl, blk_far k2 (by show w.heap.size + 1 ≠ w.heap.size; omega) _, blk_far k3 (by show w.heap.size + 1 + 1 ≠ w.heap.size; omega) _, own_other hown (fun k hk => Below.heap_setCell _ _ _ _ (by show k ≠ w.heap.size; omega)), ?_⟩
  exact (h5.grown hg h5.size (fun k hk => by have := own_base h4 k hk; omega)).setCell (p := ⟨w.heap.size, 0, none⟩) (Nat.le_refl _) _
theorem own_lt {w : World} {base : Nat} {v : Value} {ns : List Nd} (h : OwnN w base v ns) {b : Nat} (hb : v.ownBlock = some b) : b < w.heap.size := by
  rcases h.2 with ⟨rfl, _⟩ | ⟨g, cap, cur, rfl, e2, e3, r⟩
  · cases hb
  · injection hb with hb; subst hb; exact blk_lt e3
/-- Behind an append to the list: the list's own cell, and a new block. -/
theorem RdB.kept {w wr w' : World} {s : ByteArray} {at_ : Nat} {v : Value} {ns : List Nd} {X Y : Obj} (h : RdB w s at_ v ns wr) (hg : ((wr.alloc X).alloc Y).grownBy w' v.ownBlock) :
    w'.heap[w.heap.size]? = some (.cells #[v] 22 (0, 0)) ∧ w'.heap[wr.heap.size]? = some X := by
  have hl := h.lt
  obtain ⟨h1, h2, h3, h4, h5⟩ := h
  refine ⟨(hg.block _ (by simp; omega) (fun e => by have := own_base h4 _ e.symm; omega)).trans (blk_alloc (blk_alloc h1 X) Y), (hg.block _ (by simp; omega) (fun e => by have := own_lt h4 e.symm; omega)).trans (blk_alloc (blk_new _ _) Y)⟩
theorem own_base_le {w : World} {base base' : Nat} {v : Value} {ns : List Nd} (h : OwnN w base v ns) (hb : base' ≤ base) : OwnN w base' v ns := by
  refine ⟨h.1, ?_⟩
  rcases h.2 with h2 | ⟨g, cap, cur, e1, e2, r⟩
  · exact .inl h2
  · exact .inr ⟨g, cap, cur, e1, Nat.le_trans hb e2, r⟩
/-- read's two results are laid. -/
theorem RdB.done {w wr : World} {s : ByteArray} {at_ : Nat} {v : Value} {ns : List Nd} (h : RdB w s at_ v ns wr) (v2 : Value) (e2 : Value) :
    ((wr.setCell ⟨w.heap.size, 0, none⟩ v2).setCell ⟨w.heap.size + 1, 0, none⟩ e2).cell? ⟨w.heap.size, 0, none⟩ = some v2 ∧ ((wr.setCell ⟨w.heap.size, 0, none⟩ v2).setCell ⟨w.heap.size + 1, 0, none⟩ e2).cell? ⟨w.heap.size + 1, 0, none⟩ = some e2 ∧
    OwnN ((wr.setCell ⟨w.heap.size, 0, none⟩ v2).setCell ⟨w.heap.size + 1, 0, none⟩ e2) w.heap.size v ns ∧ Below w.heap.size w ((wr.setCell ⟨w.heap.size, 0, none⟩ v2).setCell ⟨w.heap.size + 1, 0, none⟩ e2) := by
  obtain ⟨h1, h2, h3, h4, h5⟩ := h
  have a1 := blk_set h1 0 v2
  have a2 := blk_far h2 (p := ⟨w.heap.size, 0, none⟩) (by show w.heap.size + 1 ≠ w.heap.size; omega) v2
  have b1 := blk_far a1 (p := ⟨w.heap.size + 1, 0, none⟩) (by show w.heap.size ≠ w.heap.size + 1; omega) e2
  have b2 := blk_set a2 0 e2
  refine ⟨(blk_cell b1 0).trans rfl, (blk_cell b2 0).trans rfl, own_base_le (own_other (own_other h4 (fun k hk => Below.heap_setCell _ _ _ _ (by show k ≠ w.heap.size; omega))) (fun k hk => Below.heap_setCell _ _ _ _ (by show k ≠ w.heap.size + 1; omega))) (by omega), ?_⟩
  exact (h5.setCell (p := ⟨w.heap.size, 0, none⟩) (Nat.le_refl _) _).setCell (p := ⟨w.heap.size + 1, 0, none⟩) (by show w.heap.size ≤ w.heap.size + 1; omega) _
theorem RdB.cells {w wr : World} {s : ByteArray} {at_ : Nat} {v : Value} {ns : List Nd} (h : RdB w s at_ v ns wr) :
    wr.cell? ⟨w.heap.size, 0, none⟩ = some v ∧ wr.frozen? ⟨w.heap.size, 0, none⟩ = false ∧ wr.cell? ⟨w.heap.size + 1, 0, none⟩ = some (.int .i64 0) ∧ wr.frozen? ⟨w.heap.size + 1, 0, none⟩ = false ∧ wr.cell? ⟨w.heap.size + 1 + 1, 1, none⟩ = some (.int .i64 at_) :=
  ⟨(blk_cell h.1 0).trans rfl, blk_frozen h.1 0, (blk_cell h.2.1 0).trans rfl, blk_frozen h.2.1 0, h.2.2.1.c1⟩
set_option maxHeartbeats 1000000 in
set_option maxRecDepth 100000 in
theorem read_one (s p : ByteArray) (w : World) (h : OneDir s p) :
    Calls Tryd.prog 32 #[.string s] w fun e w' => ∃ v, e = .returned (.tuple #[v, .int .i64 0]) ∧ OwnN w' w.heap.size v [dirN p] ∧ Below w.heap.size w w' := by
  have hsz := h.size
  have hsm := h.small
  have hss : s.size ≤ 100000000 := by omega
  have hmf : ∀ (fn : Fn) (first cap : Array Value) (w : World), (Instr.makeFunc fn first cap).run Tryd.prog w = .ok (.func fn first cap) w := fun _ _ _ _ => rfl
  have HB := Aside0.mk (fun W (h : Rdr W (w.heap.size + 1 + 1) s 0) => rbytes_calls (w.heap.size + 1 + 1) 4 s 0 W h (by omega) hss)
  have HG := Aside0.mk (fun W (h : Rdr W (w.heap.size + 1 + 1) s 4) => rget_calls (w.heap.size + 1 + 1) 4 s 4 W h (by omega) (by omega) (by omega) hss)
  have HN0 := Aside0.mk (fun A c W (h' : Rdr W (w.heap.size + 1 + 1) s 8) => rnode_dir (w.heap.size + 1 + 1) s 8 A 0 c W h' h.kind (by have : numAt s (8 + 1) 1 = p.size := h.len; omega) hss (by omega))
  rw [Nat.zero_add, h.head] at HB
  rw [h.count] at HG
  rw [show numAt s (8 + 1) 1 = p.size from h.len, show s.extract (8 + 1 + 1) (8 + 1 + 1 + p.size) = p from h.path] at HN0
  have H0 := Aside0.mk (RdB.start w s)
  clear h
  go_enter_defers Tryd.func32, Tryd.ntmps32
  go_wp2_with (first
    | (go_at_call 57; refine (HB.out _ H0.out.2.2.1).mono ?_; rintro e w1 ⟨rfl, hr1, ho1⟩; have H1 := Aside0.mk (H0.out.read hr1 ho1); clear hr1 ho1)
    | (go_at_call 59; refine (HG.out w1 H1.out.2.2.1).mono ?_; rintro e w2 ⟨rfl, hr2, ho2⟩; have H2 := Aside0.mk (H1.out.read hr2 ho2); clear hr2 ho2))
  obtain ⟨i0, hi, hz0, hz1, hz2⟩ := info_parts info33
  go_loopw [19, 6, 7] (fun v19 v6 v7 wr => ∃ (i : Nat) (v : Value), v19 = .int .i64 i ∧ v6 = .int .i64 0 ∧ i ≤ 1 ∧ Aside0 (RdB w s (dirAtB p i) v (dirL p i) wr)) (fun v19 _ _ _ => 1 - (intOf v19).toNat)
  case atStart => exact ⟨0, _, rfl, rfl, by omega, H2⟩
  case round =>
    clear H2 H1 H0 HB HG
    obtain ⟨i, v, rfl, rfl, hi1, HR⟩ := hrel
    by_cases h1 : i < 1
    · obtain rfl : i = 0 := by omega
      obtain ⟨A, c, rfl, _, _⟩ := HR.out.2.2.2.1.reads
      have hc := HR.out.cells.1
      have hlt := HR.out.lt
      have hb0 : (dirL p 0).length + 1 ≤ maxLen ∧ ((dirL p 0).length + 1) * 72 ≤ 140737488355328 := ⟨by show 0 + 1 ≤ maxLen; unfold maxLen; omega, by show (0 + 1) * 72 ≤ _; omega⟩
      go_wp2_with (first
        | (go_at_call 60; refine (HN0.out A c wr HR.out.2.2.1).mono ?_; rintro e w3 ⟨rfl, hr3, ho3⟩; have H3 := Aside0.mk (HR.out.read hr3 ho3); have hcA : ∀ o, (w3.alloc o).cell? ⟨w.heap.size, 0, none⟩ = some (.slice A (dirL p 0).length c) := (fun o => (H3.out.alloc o).cells.1); have hlt3 := H3.out.lt; clear hr3 ho3)
        | (at_builtin; go_loud (refine wpList_append_own _ rfl (.tmp 24) (.tmp 26) 22 rfl (w.heap.size + 1 + 1 + 1) 33 i0 _ 7 72 Tryd.underlying22 hi hz0 hz1 hz2 rfl (by decide) _ (dirL p 0).length (flatN (dirL p 0)) rfl ((H3.out.alloc _).alloc _).2.2.2.1 ⟨_, 0, none⟩ 1 1 (encN (dirN p)) rfl rfl (new_cells2 _ _ (dirN p)) (encN_one (dirN p)) hb0.1 hb0.2 (by simp; omega) ?_); intro v7' w5 hown1 hg1 _; have H5 := Aside0.mk (((H3.out.alloc _).alloc _).push hg1 (OwnN.snoc hown1)); obtain ⟨A', c', rfl, _, _⟩ := (OwnN.snoc (x := dirN p) hown1).reads; have hk := H3.out.kept hg1; have hcN : w5.cell? ⟨w.heap.size, 0, none⟩ = some (.slice A (dirL p 0).length c) := (blk_cell hk.1 0).trans rfl; have hfN := blk_frozen hk.1 0; have hcX : w5.cell? ⟨w3.heap.size, 6, none⟩ = some (.string ⟨#[]⟩) := (blk_cell hk.2 6).trans rfl; have hneX : w3.heap.size ≠ w.heap.size := (by omega); clear hown1 hg1 hk))
      go_roundw
      case rel => exact ⟨1, _, rfl, rfl, Nat.le_refl _, H5⟩
      case measure => simp [intOf]
    · obtain rfl : i = 1 := by omega
      obtain ⟨A, c, rfl, _, _⟩ := HR.out.2.2.2.1.reads
      obtain ⟨hc, hf, hce, hfe, hcr⟩ := HR.out.cells
      rw [show dirAtB p 1 = s.size by rw [hsz]; rfl] at hcr
      rw [show ((1 : Nat) : Int) = 1 from rfl]
      clear h1 hi1 HN0
      go_wp2
      have hD := HR.out.done (.slice A (dirL p 1).length c) (.int .i64 0)
      revert hD
      generalize (wr.setCell ⟨w.heap.size, 0, none⟩ (.slice A (dirL p 1).length c)).setCell ⟨w.heap.size + 1, 0, none⟩ (.int .i64 0) = w6
      intro hD
      obtain ⟨d1, d2, d3, d4⟩ := hD
      refine leaves_cons (f := 55) (args := #[.pointer (some ⟨w.heap.size, 0, none⟩), .pointer (some ⟨w.heap.size + 1, 0, none⟩)]) (by simp) (by simp [go_sem]) ?_
      refine (read1_idle ⟨w.heap.size, 0, none⟩ ⟨w.heap.size + 1, 0, none⟩ _).mono ?_
      rintro e u' w'' ⟨rfl, rfl, rfl⟩
      simp [Leaves, settle, results, Tryd.results32, go_sem, d1, d2]
      exact ⟨d3, d4⟩
end Go.Proofs.YtiloadafnalhpaaDoor
