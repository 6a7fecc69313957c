/-
  The walk of sum.turned: a state behind one block.
-/
import Derived.Test.YtiloadafnalhpaaDoorJ13
import Derived.Test.YtiloadafnalhpaaDoorWWords
import Derived.StillTailTactics
namespace Go.Proofs.YtiloadafnalhpaaDoor
open Go.RowKit Go.Proofs.YtiloadafnalhpaaDoorW.PrintWords
set_option linter.unusedVariables false
set_option linter.unusedSimpArgs false

def rowB (l : List UInt8) : Array Value := (l.map fun c => Value.int .u8 (c.toNat : Int)).toArray
theorem rowB_size (l : List UInt8) : (rowB l).size = l.length := by simp [rowB]
/-- The first i words, and noughts. -/
def WZ (b : List UInt8) (i : Nat) : List W32 := wordsP b i ++ List.replicate (64 - i) 0
def H8 (h : S8) : Array Value := #[u32 h.a, u32 h.b, u32 h.c, u32 h.d, u32 h.e, u32 h.f, u32 h.g, u32 h.h]
theorem cellB {w : World} {g i : Nat} {l : List UInt8} {t : TypeId} (h : w.heap[g]? = some (.cells (rowB l) t (0, 0))) (hi : i < l.length) : w.cell? ⟨g, i, none⟩ = some (.int .u8 ((l.getD i 0).toNat : Int)) := by
  rw [blk_cell h]
  simp [rowB, List.getElem?_eq_getElem hi, List.getD_eq_getElem?_getD]
/-- The call's blocks: the state, the block's bytes, the result, the words. -/
def TB (w : World) (h : S8) (b : List UInt8) (ws : List W32) (wr : World) : Prop :=
  wr.heap[w.heap.size]? = some (.cells (H8 h) 112 (0, 0)) ∧ wr.heap[w.heap.size + 1]? = some (.cells (rowB b) 113 (0, 0)) ∧ wr.heap[w.heap.size + 1 + 1]? = some (.cells (H8 ⟨0, 0, 0, 0, 0, 0, 0, 0⟩) 112 (0, 0)) ∧
  wr.heap[w.heap.size + 1 + 1 + 1]? = some (.cells (rowW ws) 127 (0, 0)) ∧ Below w.heap.size w wr
theorem TB.start (w : World) (h : S8) (b : List UInt8) : TB w h b (WZ b 0) ((((w.alloc (.cells (H8 h) 112)).alloc (.cells (rowB b) 113)).alloc (.cells (H8 ⟨0, 0, 0, 0, 0, 0, 0, 0⟩) 112)).alloc (.cells (rowW (WZ b 0)) 127)) := by
  have s1 : (w.alloc (.cells (H8 h) 112)).heap.size = w.heap.size + 1 := by simp
  have s2 : ((w.alloc (.cells (H8 h) 112)).alloc (.cells (rowB b) 113)).heap.size = w.heap.size + 1 + 1 := by simp
  have s3 : (((w.alloc (.cells (H8 h) 112)).alloc (.cells (rowB b) 113)).alloc (.cells (H8 ⟨0, 0, 0, 0, 0, 0, 0, 0⟩) 112)).heap.size = w.heap.size + 1 + 1 + 1 := by simp
  refine ⟨blk_alloc (blk_alloc (blk_alloc (blk_new _ _) _) _) _, blk_alloc (blk_alloc ?_ _) _, blk_alloc ?_ _, ?_, ((((Below.refl _ _).alloc (Nat.le_refl _) _).alloc (by omega) _).alloc (by omega) _).alloc (by omega) _⟩
  · have := blk_new (w.alloc (.cells (H8 h) 112)) (.cells (rowB b) 113); rwa [s1] at this
  · have := blk_new ((w.alloc (.cells (H8 h) 112)).alloc (.cells (rowB b) 113)) (.cells (H8 ⟨0, 0, 0, 0, 0, 0, 0, 0⟩) 112); rwa [s2] at this
  · have := blk_new (((w.alloc (.cells (H8 h) 112)).alloc (.cells (rowB b) 113)).alloc (.cells (H8 ⟨0, 0, 0, 0, 0, 0, 0, 0⟩) 112)) (.cells (rowW (WZ b 0)) 127); rwa [s3] at this
theorem WZ_length (b : List UInt8) (i : Nat) (hi : i ≤ 64) : (WZ b i).length = 64 := by unfold WZ; rw [List.length_append, wordsP_length, List.length_replicate]; omega
theorem WZ_old (b : List UInt8) (i j : Nat) (hj : j < i) : (WZ b i).getD j 0 = (wordsP b i).getD j 0 := by
  unfold WZ; rw [List.getD_eq_getElem?_getD, List.getD_eq_getElem?_getD, List.getElem?_append_left (by rw [wordsP_length]; exact hj)]
theorem cellW {w : World} {g i : Nat} {l : List W32} {t : TypeId} (h : w.heap[g]? = some (.cells (rowW l) t (0, 0))) (hi : i < l.length) : w.cell? ⟨g, i, none⟩ = some (.int .u32 ((l.getD i 0).toNat : Int)) := by
  rw [blk_cell h]
  simp [rowW, u32, List.getElem?_eq_getElem hi, List.getD_eq_getElem?_getD]
theorem WZ_set (b : List UInt8) (i : Nat) (hi : i < 64) (x : W32) (hx : wordsP b (i + 1) = wordsP b i ++ [x]) : (rowW (WZ b i)).setIfInBounds i (u32 x) = rowW (WZ b (i + 1)) := by
  have e : (WZ b i).set i x = WZ b (i + 1) := by
    unfold WZ
    rw [hx, show 64 - i = (64 - (i + 1)) + 1 by omega, List.replicate_succ, List.set_append_right _ _ (by rw [wordsP_length]; omega), wordsP_length]
    simp
  unfold rowW
  rw [List.setIfInBounds_toArray, ← List.map_set, e]
theorem TB.word {w wr : World} {h : S8} {b : List UInt8} {i : Nat} (hT : TB w h b (WZ b i) wr) (hi : i < 64) {x : W32} (hx : wordsP b (i + 1) = wordsP b i ++ [x]) {z : Int} (hz : z = (x.toNat : Int)) :
    TB w h b (WZ b (i + 1)) (wr.drew.setCell ⟨w.heap.size + 1 + 1 + 1, i, none⟩ (.int .u32 z)) := by
  obtain ⟨t0, t1, t2, t3, t4⟩ := hT
  subst hz
  have hf : ∀ k o, k ≠ w.heap.size + 1 + 1 + 1 → wr.heap[k]? = some o → (wr.drew.setCell ⟨w.heap.size + 1 + 1 + 1, i, none⟩ (u32 x)).heap[k]? = some o := fun k o hk e => (Below.heap_setCell wr.drew _ _ k hk).trans e
  refine ⟨hf _ _ (by omega) t0, hf _ _ (by omega) t1, hf _ _ (by omega) t2, ?_, (Below.drew t4).setCell (p := ⟨w.heap.size + 1 + 1 + 1, i, none⟩) (by show w.heap.size ≤ w.heap.size + 1 + 1 + 1; omega) _⟩
  rw [← WZ_set b i hi x hx]
  exact blk_set (w := wr.drew) t3 i (u32 x)
theorem word_val (a b c d : UInt8) : Go.bits .or .u32 (Go.bits .or .u32 (Go.bits .or .u32 (IntKind.u32.wrap (IntKind.u32.wrap (a.toNat : Int) * 16777216)) (IntKind.u32.wrap (IntKind.u32.wrap (b.toNat : Int) * 65536))) (IntKind.u32.wrap (IntKind.u32.wrap (c.toNat : Int) * 256))) (IntKind.u32.wrap (d.toNat : Int)) = ((word4 a b c d).toNat : Int) := by
  have hw : ∀ x : UInt8, IntKind.u32.wrap (x.toNat : Int) = ((w8 x).toNat : Int) := fun x => by rw [IntKind.wrap_u32, w8_toNat]; have := x.toNat_lt; omega
  have e24 := w_shl (w8 a) 24
  have e16 := w_shl (w8 b) 16
  have e8 := w_shl (w8 c) 8
  simp only [Int.reducePow] at e24 e16 e8
  rw [hw, hw, hw, hw, e24, e16, e8, w_or, w_or, w_or]
  rfl
theorem TB.drewN {w wr : World} {h : S8} {b : List UInt8} {ws : List W32} (hT : TB w h b ws wr) (n : Nat) : TB w h b ws (wr.drewN n) := by
  obtain ⟨t0, t1, t2, t3, t4⟩ := hT
  exact ⟨t0, t1, t2, t3, pw_below_drewN t4 n⟩
theorem sigP_val (x : W32) : Go.bits .xor .u32 (Go.bits .xor .u32 ((rotZ x 7).toNat : Int) ((rotZ x 18).toNat : Int)) ((x.toNat : Int) / 8) = ((sigP x).toNat : Int) := by
  have e := w_shr x 3
  simp only [Int.reducePow] at e
  rw [e, w_xor, w_xor]; rfl
theorem sigQ_val (x : W32) : Go.bits .xor .u32 (Go.bits .xor .u32 ((rotZ x 17).toNat : Int) ((rotZ x 19).toNat : Int)) ((x.toNat : Int) / 1024) = ((sigQ x).toNat : Int) := by
  have e := w_shr x 10
  simp only [Int.reducePow] at e
  rw [e, w_xor, w_xor]; rfl
theorem TB.below {w wr w1 : World} {h : S8} {b : List UInt8} {ws : List W32} (hT : TB w h b ws wr) (hb : Below wr.heap.size wr w1) : TB w h b ws w1 := by
  obtain ⟨t0, t1, t2, t3, t4⟩ := hT
  exact ⟨blk_below t0 hb, blk_below t1 hb, blk_below t2 hb, blk_below t3 hb, t4.trans (hb.mono t4.size)⟩
theorem TB.alloc {w wr : World} {h : S8} {b : List UInt8} {ws : List W32} (hT : TB w h b ws wr) (o : Obj) : TB w h b ws (wr.alloc o) :=
  hT.below ((Below.refl _ _).alloc (Nat.le_refl _) _)
theorem TB.lt {w wr : World} {h : S8} {b : List UInt8} {ws : List W32} (hT : TB w h b ws wr) : w.heap.size + 4 ≤ wr.heap.size := by
  obtain ⟨t0, t1, t2, t3, t4⟩ := hT
  have := blk_lt t3; omega
theorem WZ_all (b : List UInt8) : WZ b 64 = wordsP b 64 := by simp [WZ]
theorem size_8 : (Tryd.prog.info? 112).map (·.size) = some 8 := by kernel_rfl
/-- Beside them the keys and the state at work. -/
def TC (w : World) (h : S8) (b : List UInt8) (K : Nat) (s : S8) (wr : World) : Prop :=
  TB w h b (wordsP b 64) wr ∧ w.heap.size + 4 ≤ K ∧ wr.heap[K]? = some (.cells (rowW keysP) 127 (0, 0)) ∧ wr.heap[K + 1]? = some (.cells (H8 s) 112 (0, 0))
theorem TC.start {w wr : World} {h : S8} {b : List UInt8} (hT : TB w h b (wordsP b 64) wr) : TC w h b wr.heap.size h ((wr.alloc (.cells (rowW keysP) 127)).alloc (.cells (H8 h) 112)) := by
  refine ⟨(hT.alloc _).alloc _, hT.lt, blk_alloc (blk_new _ _) _, ?_⟩
  have := blk_new (wr.alloc (.cells (rowW keysP) 127)) (.cells (H8 h) 112)
  rwa [show (wr.alloc (.cells (rowW keysP) 127)).heap.size = wr.heap.size + 1 by simp] at this
theorem TC.drewN {w wr : World} {h s : S8} {b : List UInt8} {K : Nat} (hT : TC w h b K s wr) (n : Nat) : TC w h b K s (wr.drewN n) := ⟨hT.1.drewN n, hT.2⟩
theorem below_row {B : Nat} {w wr : World} (h : Below B w wr) {g : Nat} (hg : B ≤ g) (cs : Array Value) : Below B w (wr.setRow g cs) :=
  ⟨h.os, h.tape, h.output, by simpa using h.size, fun k hk => (setRow_other wr g k cs (by omega)).trans (h.block k hk)⟩
theorem setRow_new2 (w : World) (A : Obj) (c c' : Array Value) (t : TypeId) : ((w.alloc A).alloc (.cells c t)).setRow (w.heap.size + 1) c' = (w.alloc A).alloc (.cells c' t) := by
  have h := setRow_new (w.alloc A) c c' t
  rwa [show (w.alloc A).heap.size = w.heap.size + 1 by simp] at h
theorem H8_one (h : S8) : (H8 h).all (·.oneCell') = true := Array.all_eq_true_iff_forall_mem.2 (fun v hv => by
  simp only [H8, List.mem_toArray, List.mem_cons, List.not_mem_nil, or_false] at hv
  rcases hv with rfl | rfl | rfl | rfl | rfl | rfl | rfl | rfl <;> rfl)
theorem TC.step {w wr : World} {h s : S8} {b : List UInt8} {K : Nat} (hT : TC w h b K s wr) (s' : S8) (cs : Array Value) (e : cs = H8 s') : TC w h b K s' (wr.setRow (K + 1) cs) := by
  obtain ⟨⟨t0, t1, t2, t3, t4⟩, hK, hk, hs⟩ := hT
  subst e
  have hf : ∀ k o, k ≠ K + 1 → wr.heap[k]? = some o → (wr.setRow (K + 1) (H8 s')).heap[k]? = some o := fun k o hk e => (setRow_other wr _ k _ hk).trans e
  exact ⟨⟨hf _ _ (by omega) t0, hf _ _ (by omega) t1, hf _ _ (by omega) t2, hf _ _ (by omega) t3, below_row t4 (by omega) _⟩, hK, hf _ _ (by omega) hk, setRow_heap wr _ _ _ _ _ hs⟩
def st8 (w : World) (g : Nat) (z0 z1 z2 z3 z4 z5 z6 z7 : Int) : World :=
  (((((((w.setCell ⟨g, 0, none⟩ (.int .u32 z0)).setCell ⟨g, 1, none⟩ (.int .u32 z1)).setCell ⟨g, 2, none⟩ (.int .u32 z2)).setCell ⟨g, 3, none⟩ (.int .u32 z3)).setCell ⟨g, 4, none⟩ (.int .u32 z4)).setCell ⟨g, 5, none⟩ (.int .u32 z5)).setCell ⟨g, 6, none⟩ (.int .u32 z6)).setCell ⟨g, 7, none⟩ (.int .u32 z7)
theorem H8_set (s s' : S8) : ((((((((H8 s).setIfInBounds 0 (u32 s'.a)).setIfInBounds 1 (u32 s'.b)).setIfInBounds 2 (u32 s'.c)).setIfInBounds 3 (u32 s'.d)).setIfInBounds 4 (u32 s'.e)).setIfInBounds 5 (u32 s'.f)).setIfInBounds 6 (u32 s'.g)).setIfInBounds 7 (u32 s'.h) = H8 s' := by
  apply Array.ext'
  simp [H8]
theorem max_u32 : IntKind.u32.max = 4294967295 := rfl
theorem TC.set8 {w wr : World} {h s : S8} {b : List UInt8} {K : Nat} (hT : TC w h b K s wr) (n : Nat) (s' : S8) {z0 z1 z2 z3 z4 z5 z6 z7 : Int}
    (e0 : z0 = s'.a.toNat) (e1 : z1 = s'.b.toNat) (e2 : z2 = s'.c.toNat) (e3 : z3 = s'.d.toNat) (e4 : z4 = s'.e.toNat) (e5 : z5 = s'.f.toNat) (e6 : z6 = s'.g.toNat) (e7 : z7 = s'.h.toNat) :
    TC w h b K s' (st8 (wr.drewN n) (K + 1) z0 z1 z2 z3 z4 z5 z6 z7) := by
  subst e0 e1 e2 e3 e4 e5 e6 e7
  obtain ⟨⟨t0, t1, t2, t3, t4⟩, hK, hk, hs⟩ := hT
  have hf : ∀ k o, k ≠ K + 1 → wr.heap[k]? = some o → (st8 (wr.drewN n) (K + 1) s'.a.toNat s'.b.toNat s'.c.toNat s'.d.toNat s'.e.toNat s'.f.toNat s'.g.toNat s'.h.toNat).heap[k]? = some o := fun k o hk e => by
    unfold st8
    rw [Below.heap_setCell _ _ _ k hk, Below.heap_setCell _ _ _ k hk, Below.heap_setCell _ _ _ k hk, Below.heap_setCell _ _ _ k hk, Below.heap_setCell _ _ _ k hk, Below.heap_setCell _ _ _ k hk, Below.heap_setCell _ _ _ k hk, Below.heap_setCell _ _ _ k hk]
    exact e
  have hbe : ∀ (W : World) (o : Nat) (v : Value), Below w.heap.size w W → Below w.heap.size w (W.setCell ⟨K + 1, o, none⟩ v) := fun W o v hb => hb.setCell (p := ⟨K + 1, o, none⟩) (by show w.heap.size ≤ K + 1; omega) v
  refine ⟨⟨hf _ _ (by omega) t0, hf _ _ (by omega) t1, hf _ _ (by omega) t2, hf _ _ (by omega) t3, ?_⟩, hK, hf _ _ (by omega) hk, ?_⟩
  · exact hbe _ _ _ (hbe _ _ _ (hbe _ _ _ (hbe _ _ _ (hbe _ _ _ (hbe _ _ _ (hbe _ _ _ (hbe _ _ _ (pw_below_drewN t4 n))))))))
  · rw [← H8_set s s']
    exact blk_set (blk_set (blk_set (blk_set (blk_set (blk_set (blk_set (blk_set (w := wr.drewN n) hs 0 _) 1 _) 2 _) 3 _) 4 _) 5 _) 6 _) 7 _
/-- The state's words, the first i of them with the work's added. -/
def addW (h s : S8) (i : Nat) : List W32 := (List.range 8).map fun j => if j < i then h.words.getD j 0 + s.words.getD j 0 else h.words.getD j 0
theorem addW_0 (h s : S8) : rowW (addW h s 0) = H8 h := rfl
theorem addW_8 (h s : S8) : rowW (addW h s 8) = H8 (add8 h s) := rfl
theorem addW_length (h s : S8) (i : Nat) : (addW h s i).length = 8 := by simp [addW]
theorem addW_at (h s : S8) {i : Nat} (hi : i < 8) : (addW h s i).getD i 0 = h.words.getD i 0 := by
  rw [List.getD_eq_getElem?_getD, addW, List.getElem?_map, List.getElem?_range hi]
  simp
theorem addW_set (h s : S8) {i : Nat} (hi : i < 8) : (addW h s i).set i (h.words.getD i 0 + s.words.getD i 0) = addW h s (i + 1) := by
  apply List.ext_getElem?
  intro j
  rw [List.getElem?_set]
  by_cases hj : j < 8
  · unfold addW
    rw [List.getElem?_map, List.getElem?_map, List.getElem?_range hj]
    by_cases e : i = j
    · subst e; simp [hi]
    · rw [if_neg e]
      simp only [Option.map_some]
      congr 1
      by_cases h1 : j < i
      · rw [if_pos h1, if_pos (by omega)]
      · rw [if_neg h1, if_neg (by omega)]
  · rw [if_neg (by omega), List.getElem?_eq_none (by rw [addW_length]; omega), List.getElem?_eq_none (by rw [addW_length]; omega)]
/-- What is left of the blocks behind the rounds. -/
def TD (w : World) (h s : S8) (K i : Nat) (wr : World) : Prop :=
  wr.heap[w.heap.size]? = some (.cells (rowW (addW h s i)) 112 (0, 0)) ∧ wr.heap[w.heap.size + 1 + 1]? = some (.cells (H8 ⟨0, 0, 0, 0, 0, 0, 0, 0⟩) 112 (0, 0)) ∧
  w.heap.size + 4 ≤ K ∧ wr.heap[K + 1]? = some (.cells (H8 s) 112 (0, 0)) ∧ Below w.heap.size w wr
theorem TD.start {w wr : World} {h s : S8} {b : List UInt8} {K : Nat} (hT : TC w h b K s wr) : TD w h s K 0 wr := ⟨hT.1.1, hT.1.2.2.1, hT.2.1, hT.2.2.2, hT.1.2.2.2.2⟩
theorem TD.step {w wr : World} {h s : S8} {K i : Nat} (hT : TD w h s K i wr) (hi : i < 8) {z : Int} (hz : z = ((h.words.getD i 0 + s.words.getD i 0).toNat : Int)) :
    TD w h s K (i + 1) (wr.drew.setCell ⟨w.heap.size, i, none⟩ (.int .u32 z)) := by
  obtain ⟨t0, t1, t2, t3, t4⟩ := hT
  subst hz
  have hf : ∀ k o, k ≠ w.heap.size → wr.heap[k]? = some o → (wr.drew.setCell ⟨w.heap.size, i, none⟩ (u32 (h.words.getD i 0 + s.words.getD i 0))).heap[k]? = some o := fun k o hk e => (Below.heap_setCell wr.drew _ _ k hk).trans e
  refine ⟨?_, hf _ _ (by omega) t1, t2, hf _ _ (by omega) t3, (Below.drew t4).setCell (p := ⟨w.heap.size, i, none⟩) (Nat.le_refl _) _⟩
  have e : (rowW (addW h s i)).setIfInBounds i (u32 (h.words.getD i 0 + s.words.getD i 0)) = rowW (addW h s (i + 1)) := by
    unfold rowW
    rw [List.setIfInBounds_toArray, ← List.map_set, addW_set h s hi]
  rw [← e]
  exact blk_set (w := wr.drew) t0 i _
theorem cell8 {w : World} {g i : Nat} {s : S8} (h : w.heap[g]? = some (.cells (H8 s) 112 (0, 0))) (hi : i < 8) : w.cell? ⟨g, i, none⟩ = some (.int .u32 ((s.words.getD i 0).toNat : Int)) :=
  cellW (l := s.words) h hi
theorem tP_val (s : S8) (k w : W32) : IntKind.u32.wrap (IntKind.u32.wrap (IntKind.u32.wrap (IntKind.u32.wrap ((s.h.toNat : Int) + Go.bits .xor .u32 (Go.bits .xor .u32 ((rotZ s.e 6).toNat : Int) ((rotZ s.e 11).toNat : Int)) ((rotZ s.e 25).toNat : Int)) + Go.bits .xor .u32 (Go.bits .and .u32 (s.e.toNat : Int) (s.f.toNat : Int)) (Go.bits .and .u32 (Go.bits .xor .u32 4294967295 (s.e.toNat : Int)) (s.g.toNat : Int))) + (k.toNat : Int)) + (w.toNat : Int)) = ((tP s k w).toNat : Int) := by
  rw [w_not, w_and, w_and, w_xor, w_xor, w_xor, w_add, w_add, w_add, w_add]; rfl
theorem uP_val (s : S8) : IntKind.u32.wrap (Go.bits .xor .u32 (Go.bits .xor .u32 ((rotZ s.a 2).toNat : Int) ((rotZ s.a 13).toNat : Int)) ((rotZ s.a 22).toNat : Int) + Go.bits .xor .u32 (Go.bits .xor .u32 (Go.bits .and .u32 (s.a.toNat : Int) (s.b.toNat : Int)) (Go.bits .and .u32 (s.a.toNat : Int) (s.c.toNat : Int))) (Go.bits .and .u32 (s.b.toNat : Int) (s.c.toNat : Int))) = ((uP s).toNat : Int) := by
  rw [w_and, w_and, w_and, w_xor, w_xor, w_xor, w_xor, w_add]; rfl
theorem cellK {w : World} {g i : Nat} (h : w.heap[g]? = some (.cells (rowW keysP) 127 (0, 0))) (hi : i < 64) : w.cell? ⟨g, i, none⟩ = some (.int .u32 ((keysP.getD i 0).toNat : Int)) := cellW h hi
theorem next_word (b : List UInt8) (i : Nat) (h : ¬ i < 16) : wordsP b (i + 1) = wordsP b i ++ [nextW (wordsP b i) i] := by rw [wordsP, if_neg h]
theorem next_val (l : List W32) (i : Nat) : IntKind.u32.wrap (IntKind.u32.wrap (IntKind.u32.wrap (((l.getD (i - 16) 0).toNat : Int) + ((sigP (l.getD (i - 15) 0)).toNat : Int)) + ((l.getD (i - 7) 0).toNat : Int)) + ((sigQ (l.getD (i - 2) 0)).toNat : Int)) = ((nextW l i).toNat : Int) := by
  rw [w_add, w_add, w_add]; rfl
set_option maxHeartbeats 1000000 in
set_option maxRecDepth 100000 in
theorem turned_calls (h : S8) (b : List UInt8) (hb : b.length = 64) (w : World) :
    Calls Tryd.prog 73 #[.agg (H8 h), .agg (rowB b)] w fun e w' => e = .returned (.agg (H8 (turnedP h b))) ∧ Below w.heap.size w w' := by
  have HBL := Lib.hid hb
  clear hb
  have hsz8 : (H8 h).size = 8 := rfl
  have hszb : (rowB b).size = 64 := by rw [rowB_size, HBL.out]
  go_enter Tryd.func73, Tryd.ntmps73
  go_wp2
  go_loopw [16] (fun v16 wr => ∃ i : Nat, v16 = .int .i64 i ∧ i ≤ 16 ∧ Aside0 (TB w h b (WZ b i) wr)) (fun v16 _ => 16 - (intOf v16).toNat)
  case atStart => exact ⟨0, rfl, Nat.zero_le _, ⟨TB.start w h b⟩⟩
  case round =>
    obtain ⟨i, rfl, hi, HT⟩ := hrel
    by_cases h1 : i < 16
    · obtain ⟨t0, t1, t2, t3, t4⟩ := HT.out
      have c0 := cellB (i := 4 * i) t1 (by rw [HBL.out]; omega)
      have c1 := cellB (i := 4 * i + 1) t1 (by rw [HBL.out]; omega)
      have c2 := cellB (i := 4 * i + 2) t1 (by rw [HBL.out]; omega)
      have c3 := cellB (i := 4 * i + 3) t1 (by rw [HBL.out]; omega)
      have f3 := blk_frozen t3 i
      have cw := cellW (i := i) t3 (by rw [WZ_length _ _ (by omega)]; omega)
      clear t0 t1 t2 t3 t4
      have m0 : IntKind.i64.wrap (4 * (i : Int)) = 4 * (i : Int) := IntWalk.i64_in _ (by omega)
      have m1 : IntKind.i64.wrap (4 * (i : Int) + 1) = 4 * (i : Int) + 1 := IntWalk.i64_in _ (by omega)
      have m2 : IntKind.i64.wrap (4 * (i : Int) + 2) = 4 * (i : Int) + 2 := IntWalk.i64_in _ (by omega)
      have m3 : IntKind.i64.wrap (4 * (i : Int) + 3) = 4 * (i : Int) + 3 := IntWalk.i64_in _ (by omega)
      have a0 : (0 : Int) ≤ 4 * (i : Int) := by omega
      have a1 : (0 : Int) ≤ 4 * (i : Int) + 1 := by omega
      have a2 : (0 : Int) ≤ 4 * (i : Int) + 2 := by omega
      have a3 : (0 : Int) ≤ 4 * (i : Int) + 3 := by omega
      have b0 : 4 * (i : Int) < 64 := by omega
      have b1 : 4 * (i : Int) + 1 < 64 := by omega
      have b2 : 4 * (i : Int) + 2 < 64 := by omega
      have b3 : 4 * (i : Int) + 3 < 64 := by omega
      have n0 : (4 * (i : Int)).toNat = 4 * i := by omega
      have n1 : (4 * (i : Int) + 1).toNat = 4 * i + 1 := by omega
      have n2 : (4 * (i : Int) + 2).toNat = 4 * i + 2 := by omega
      have n3 : (4 * (i : Int) + 3).toNat = 4 * i + 3 := by omega
      have i0 : (i : Int) < 64 := by omega
      go_wp2
      go_still_tail 31, (by kernel_rfl)
      change wpList _ _ _ _ _ wr.drew
      go_wp2
      go_roundw
      case rel =>
        refine ⟨i + 1, by go_num, by omega, ⟨TB.word HT.out (by omega) (by rw [wordsP, if_pos h1]) ?_⟩⟩
        have hv := word_val (b.getD (4 * i) 0) (b.getD (4 * i + 1) 0) (b.getD (4 * i + 2) 0) (b.getD (4 * i + 3) 0)
        rw [← hv]
        simp [IntKind.wrap_u32]
      case measure => simp [intOf]; omega
    · obtain rfl : i = 16 := by omega
      clear h1 hi
      rw [show ((16 : Nat) : Int) = 16 from rfl]
      go_wp2
      go_loopw [7] (fun v7 wr => ∃ i : Nat, v7 = .int .i64 i ∧ 16 ≤ i ∧ i ≤ 64 ∧ Aside0 (TB w h b (WZ b i) wr)) (fun v7 _ => 64 - (intOf v7).toNat)
      case atStart => exact ⟨16, rfl, Nat.le_refl _, by omega, HT⟩
      case round =>
        clear HT
        obtain ⟨i, rfl, hi0, hi, HT⟩ := hrel
        by_cases h1 : i < 64
        · obtain ⟨t0, t1, t2, t3, t4⟩ := HT.out
          have c16 := cellW (i := i - 16) t3 (by rw [WZ_length _ _ (by omega)]; omega)
          have c15 := cellW (i := i - 15) t3 (by rw [WZ_length _ _ (by omega)]; omega)
          have c7 := cellW (i := i - 7) t3 (by rw [WZ_length _ _ (by omega)]; omega)
          have c2 := cellW (i := i - 2) t3 (by rw [WZ_length _ _ (by omega)]; omega)
          have cw := cellW (i := i) t3 (by rw [WZ_length _ _ (by omega)]; omega)
          rw [WZ_old _ _ _ (by omega)] at c16 c15 c7 c2
          have hv := next_val (wordsP b i) i
          have hp := sigP_val ((wordsP b i).getD (i - 15) 0)
          have hq := sigQ_val ((wordsP b i).getD (i - 2) 0)
          have hw := next_word b i (by omega)
          revert c16 c15 c7 c2 hv hp hq
          generalize (wordsP b i).getD (i - 16) 0 = x16
          generalize (wordsP b i).getD (i - 15) 0 = x15
          generalize (wordsP b i).getD (i - 7) 0 = x7
          generalize (wordsP b i).getD (i - 2) 0 = x2
          intro c16 c15 c7 c2 hv hp hq
          have HV := Lib.hid hv
          have HW := Lib.hid hw
          have HP := Lib.hid hp
          have HQ := Lib.hid hq
          have f3 := blk_frozen t3 i
          clear t0 t1 t2 t3 t4 hv hw hp hq
          have m16 : IntKind.i64.wrap ((i : Int) - 16) = (i : Int) - 16 := IntWalk.i64_in _ (by omega)
          have m15 : IntKind.i64.wrap ((i : Int) - 15) = (i : Int) - 15 := IntWalk.i64_in _ (by omega)
          have m7 : IntKind.i64.wrap ((i : Int) - 7) = (i : Int) - 7 := IntWalk.i64_in _ (by omega)
          have m2 : IntKind.i64.wrap ((i : Int) - 2) = (i : Int) - 2 := IntWalk.i64_in _ (by omega)
          have a16 : (0 : Int) ≤ (i : Int) - 16 := by omega
          have a15 : (0 : Int) ≤ (i : Int) - 15 := by omega
          have a7 : (0 : Int) ≤ (i : Int) - 7 := by omega
          have a2 : (0 : Int) ≤ (i : Int) - 2 := by omega
          have p16 : (16 : Int) ≤ (i : Int) := by omega
          have p7 : (7 : Int) ≤ (i : Int) := by omega
          have b16 : (i : Int) - 16 < 64 := by omega
          have b15 : (i : Int) - 15 < 64 := by omega
          have b7 : (i : Int) - 7 < 64 := by omega
          have b2 : (i : Int) - 2 < 64 := by omega
          have n16 : ((i : Int) - 16).toNat = i - 16 := by omega
          have n15 : ((i : Int) - 15).toNat = i - 15 := by omega
          have n7 : ((i : Int) - 7).toNat = i - 7 := by omega
          have n2 : ((i : Int) - 2).toNat = i - 2 := by omega
          have i0 : (i : Int) < 64 := by omega
          have i0 : (i : Int) < 64 := by omega
          go_wp2
          go_quiet ((go_at_call 82; exact Calls.quiet_of (right_any _ _ (by omega) (by omega) _)))
          revert nq
          intro na
          go_wp2
          go_quiet ((go_at_call 82; exact quiet_add (right_any _ _ (by omega) (by omega) _)))
          have HT2 : Aside0 (TB w h b (WZ b i) ((wr.drewN na).drewN nq)) := ⟨TB.drewN (TB.drewN HT.out _) _⟩
          have d16 : ((wr.drewN na).drewN nq).cell? ⟨w.heap.size + 1 + 1 + 1, i - 16, none⟩ = _ := c16
          have d7 : ((wr.drewN na).drewN nq).cell? ⟨w.heap.size + 1 + 1 + 1, i - 7, none⟩ = _ := c7
          have dw : ((wr.drewN na).drewN nq).cell? ⟨w.heap.size + 1 + 1 + 1, i, none⟩ = _ := cw
          have g3 : ((wr.drewN na).drewN nq).frozen? ⟨w.heap.size + 1 + 1 + 1, i, none⟩ = _ := f3
          clear c16 c15 c7 c2 cw f3 HT
          revert HT2 d16 d7 dw g3
          generalize (wr.drewN na).drewN nq = w2
          intro HT2 d16 d7 dw g3
          clear na nq
          go_wp2
          go_still_tail 15, (by kernel_rfl)
          change wpList _ _ _ _ _ w2.drew
          go_wp2
          go_roundw
          case rel =>
            refine ⟨i + 1, by go_num, by omega, by omega, ⟨TB.word HT2.out (by omega) HW.out ?_⟩⟩
            rw [← HV.out, ← HP.out, ← HQ.out]
            simp [IntKind.wrap_u32]
          case measure => simp [intOf]; omega
        · obtain rfl : i = 64 := by omega
          clear h1 hi hi0
          rw [show ((64 : Nat) : Int) = 64 from rfl]
          rw [WZ_all] at HT
          go_wp2_with (first
            | (go_at_call 83; refine (constants_calls _).mono ?_; rintro e w1 ⟨rfl, hb1⟩; have HT1 : Aside0 (TB w h b (wordsP b 64) w1) := Aside0.mk (TB.below HT.out hb1); have ht0 := (HT1.out.alloc (.cells (rowW keysP) 127)).1; have HH := Aside0.mk ht0; clear hb1 ht0)
            | (refine wpList_store_row rfl 127 _ _ rfl w1.heap.size (rowW keysP) rfl rfl 127 _ (heap_alloc_new _ _) (by rw [rowW_size]; exact size_k) (by rw [rowW_size]; rfl) (rowW_one _) ?_; rw [setRow_new])
            | (refine wpList_load_row rfl 112 _ rfl w.heap.size rfl 112 (H8 h) (0, 0) _ HH.out Tryd.underlying112 rfl (by rw [hsz8]; exact size_8) ?_)
            | (refine wpList_store_row rfl 112 _ _ rfl (w1.heap.size + 1) (H8 h) rfl rfl 112 _ (heap_alloc2_new _ _ _) (by rw [hsz8]; exact size_8) (by rw [hsz8]; rfl) (H8_one _) ?_; rw [setRow_new2]))
          have H0 : Aside0 (TC w h b w1.heap.size h ((w1.alloc (.cells (rowW keysP) 127)).alloc (.cells (H8 h) 112))) := ⟨TC.start HT1.out⟩
          clear HT HH
          go_loopw [106, 12, 13, 14] (fun v106 v12 v13 v14 wr => ∃ i : Nat, v106 = .int .i64 i ∧ i ≤ 64 ∧ Aside0 (TC w h b w1.heap.size (rounds8 h (wordsP b 64) i) wr)) (fun v106 _ _ _ _ => 64 - (intOf v106).toNat)
          case atStart => exact ⟨0, rfl, Nat.zero_le _, H0⟩
          case round =>
            clear H0
            obtain ⟨i, rfl, hi, HT⟩ := hrel
            by_cases h1 : i < 64
            · obtain ⟨⟨t0, t1, t2, t3, t4⟩, t5, t6, t7⟩ := HT.out
              have ck := cellK (i := i) t6 h1
              have cw := cellW (i := i) t3 (by rw [wordsP_length]; omega)
              have hR : rounds8 h (wordsP b 64) (i + 1) = rnd (rounds8 h (wordsP b 64) i) (keysP.getD i 0) ((wordsP b 64).getD i 0) := rfl
              clear t0 t1 t2 t3 t4 t5 t6
              revert HT t7 ck cw hR
              generalize rounds8 h (wordsP b 64) i = s
              generalize keysP.getD i 0 = k
              generalize (wordsP b 64).getD i 0 = x
              intro HT t7 ck cw hR
              have HR := Lib.hid hR
              have HP := Lib.hid (tP_val s k x)
              have HQ := Lib.hid (uP_val s)
              have HS := Aside0.mk t7
              clear hR
              have e0 : wr.cell? ⟨w1.heap.size + 1, 0, none⟩ = some (.int .u32 (s.a.toNat : Int)) := (blk_cell t7 0).trans rfl
              have e1 : wr.cell? ⟨w1.heap.size + 1, 1, none⟩ = some (.int .u32 (s.b.toNat : Int)) := (blk_cell t7 1).trans rfl
              have e2 : wr.cell? ⟨w1.heap.size + 1, 2, none⟩ = some (.int .u32 (s.c.toNat : Int)) := (blk_cell t7 2).trans rfl
              have e3 : wr.cell? ⟨w1.heap.size + 1, 3, none⟩ = some (.int .u32 (s.d.toNat : Int)) := (blk_cell t7 3).trans rfl
              have e4 : wr.cell? ⟨w1.heap.size + 1, 4, none⟩ = some (.int .u32 (s.e.toNat : Int)) := (blk_cell t7 4).trans rfl
              have e5 : wr.cell? ⟨w1.heap.size + 1, 5, none⟩ = some (.int .u32 (s.f.toNat : Int)) := (blk_cell t7 5).trans rfl
              have e6 : wr.cell? ⟨w1.heap.size + 1, 6, none⟩ = some (.int .u32 (s.g.toNat : Int)) := (blk_cell t7 6).trans rfl
              have e7 : wr.cell? ⟨w1.heap.size + 1, 7, none⟩ = some (.int .u32 (s.h.toNat : Int)) := (blk_cell t7 7).trans rfl
              have f0 := blk_frozen t7 0
              have f1 := blk_frozen t7 1
              have f2 := blk_frozen t7 2
              have f3 := blk_frozen t7 3
              have f4 := blk_frozen t7 4
              have f5 := blk_frozen t7 5
              have f6 := blk_frozen t7 6
              have f7 := blk_frozen t7 7
              clear t7
              have i0 : (i : Int) < 64 := by omega
              go_wp2
              go_quiet ((go_at_call 82; exact Calls.quiet_of (right_any _ _ (by omega) (by omega) _)))
              revert nq
              intro na
              go_wp2
              go_quiet ((go_at_call 82; exact quiet_add (right_any _ _ (by omega) (by omega) _)))
              go_wp2
              go_roundw
              case rel =>
                refine ⟨i + 1, by go_num, by omega, ⟨?_⟩⟩
                rw [HR.out]
                refine TC.set8 HT.out _ _ ?_ rfl rfl rfl ?_ rfl rfl rfl
                · show _ = ((tP s k x + uP s).toNat : Int)
                  rw [← w_add, ← HP.out, ← HQ.out]
                  simp [IntKind.wrap_u32, max_u32]
                · show _ = ((s.d + tP s k x).toNat : Int)
                  rw [← w_add, ← HP.out]
                  simp [IntKind.wrap_u32, max_u32]
              case measure => simp [intOf]; omega
            · obtain rfl : i = 64 := by omega
              clear h1 hi
              rw [show ((64 : Nat) : Int) = 64 from rfl]
              have hD := TD.start HT.out
              have hE : turnedP h b = add8 h (rounds8 h (wordsP b 64) 64) := rfl
              clear HT HT1
              revert hD hE
              generalize rounds8 h (wordsP b 64) 64 = s
              intro hD hE
              have HE := Lib.hid hE
              have HD := Aside0.mk hD
              clear hD hE
              go_wp2
              go_loopw [194, 15] (fun v194 v15 wr => ∃ i : Nat, v194 = .int .i64 i ∧ i ≤ 8 ∧ Aside0 (TD w h s w1.heap.size i wr)) (fun v194 _ _ => 8 - (intOf v194).toNat)
              case atStart => exact ⟨0, rfl, Nat.zero_le _, HD⟩
              case round =>
                clear HD
                obtain ⟨i, rfl, hi, HT⟩ := hrel
                by_cases h1 : i < 8
                · obtain ⟨t0, t1, t2, t3, t4⟩ := HT.out
                  have c0 := cellW (i := i) t0 (by rw [addW_length]; omega)
                  have f0 := blk_frozen t0 i
                  have cs := cell8 (i := i) t3 h1
                  rw [addW_at h s h1] at c0
                  clear t0 t1 t2 t3 t4
                  have hv := w_add (h.words.getD i 0) (s.words.getD i 0)
                  have HV : Aside0 (∀ W : World, ∀ z : Int, z = ((h.words.getD i 0 + s.words.getD i 0).toNat : Int) → TD w h s w1.heap.size (i + 1) (wr.drew.setCell ⟨w.heap.size, i, none⟩ (.int .u32 z))) := ⟨fun _ z hz => HT.out.step h1 hz⟩
                  revert c0 cs hv HV
                  generalize h.words.getD i 0 = x
                  generalize s.words.getD i 0 = y
                  intro c0 cs hv HV
                  have HW := Lib.hid hv
                  clear hv
                  have i0 : (i : Int) < 8 := by omega
                  go_wp2
                  go_still_tail 8, (by kernel_rfl)
                  change wpList _ _ _ _ _ wr.drew
                  go_wp2
                  go_roundw
                  case rel =>
                    refine ⟨i + 1, by go_num, by omega, ⟨HV.out wr _ ?_⟩⟩
                    rw [← HW.out]
                    simp [IntKind.wrap_u32]
                  case measure => simp [intOf]; omega
                · obtain rfl : i = 8 := by omega
                  clear h1 hi
                  obtain ⟨t0, t1, t2, t3, t4⟩ := HT.out
                  rw [addW_8] at t0
                  have HH := Aside0.mk t0
                  have HZ := Aside0.mk t1
                  have HB := Aside0.mk t4
                  clear t0 t1 t2 t3 t4
                  have hsa : (H8 (add8 h s)).size = 8 := rfl
                  go_wp2_with (first
                    | (refine wpList_load_row rfl 112 _ rfl w.heap.size rfl 112 (H8 (add8 h s)) (0, 0) _ HH.out Tryd.underlying112 rfl (by rw [hsa]; exact size_8) ?_)
                    | (refine wpList_store_row rfl 112 _ _ rfl (w.heap.size + 1 + 1) (H8 (add8 h s)) rfl rfl 112 _ HZ.out (by rw [hsa]; exact size_8) (by rw [hsa]; rfl) (H8_one _) ?_))
                  exact bodyPost_ret (results_cell_row Tryd.results73 _ _ (w.heap.size + 1 + 1) 112 (H8 (add8 h s)) (0, 0) _ rfl (setRow_heap _ _ _ _ _ _ HZ.out) Tryd.underlying112 rfl (by rw [hsa]; exact size_8)) rfl ⟨by rw [HE.out], below_row HB.out (by omega) _⟩
end Go.Proofs.YtiloadafnalhpaaDoor
