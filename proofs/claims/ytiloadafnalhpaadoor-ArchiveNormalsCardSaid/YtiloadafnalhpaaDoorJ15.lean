/-
  Laws for sum.Mix: a part of a string copied into a row; whole arrays out of and into the middle of a row; a mix in a block.
-/
import Derived.Test.YtiloadafnalhpaaDoorJ14
import Derived.Laws.CopyRow
import Derived.OrdersHeld
namespace Go.Proofs.YtiloadafnalhpaaDoor
open Go.RowKit Go.Proofs.YtiloadafnalhpaaDoorW.PrintWords
set_option linter.unusedVariables false
set_option linter.unusedSimpArgs false

def byteV (l : List UInt8) : List Value := l.map fun c => Value.int .u8 (c.toNat : Int)
theorem byteV_length (l : List UInt8) : (byteV l).length = l.length := by simp [byteV]
theorem byteV_one (l : List UInt8) : ∀ v ∈ byteV l, v.oneCell' = true := by
  intro v hv
  simp only [byteV, List.mem_map] at hv
  obtain ⟨b, _, rfl⟩ := hv
  rfl
section
variable {P : Program}
theorem run_copy_string_part (w : World) (dT sT ty elem : TypeId) (g o dLen dCap : Nat) (s : ByteArray) (cur : Array Value) (t : TypeId) (n : Nat) (hn : Nat.min s.size dLen = n)
    (hu : P.underlying dT = some (.slice elem)) (hs : (P.info? elem).map (·.size) = some 1) (hg : w.heap[g]? = some (.cells cur t (0, 0))) (hfit : o + n ≤ cur.size) :
    (Builtin.copy_ #[dT, sT] ty #[.slice (some ⟨g, o, none⟩) dLen dCap, .string s]).run P w =
      .ok (.int .i64 n) (w.setRow g (cur.toList.take o ++ byteV (s.data.toList.take n) ++ cur.toList.drop (o + n)).toArray) := by
  have hns : n ≤ s.size := by rw [← hn]; exact Nat.min_le_left _ _
  have hlen : (byteV (s.data.toList.take n)).length = n := by
    rw [byteV_length, List.length_take, Array.length_toList]; exact Nat.min_eq_left hns
  have hst := run_storeCells_at P g o t (byteV (s.data.toList.take n)) 0 cur w hg (by rw [hlen]; simpa using hfit) (byteV_one _)
  have htk : List.take n (List.map (fun b : UInt8 => Value.int IntKind.u8 (b.toNat : Int)) s.data.toList) = byteV (s.data.toList.take n) := by rw [byteV, List.map_take]
  rw [hlen] at hst
  simp only [Nat.add_zero] at hst
  cases hq : P.info? elem with
  | none => simp [hq] at hs
  | some i =>
    simp [Builtin.copy_, run_underlying hu, Builtin.lenOf, Builtin.firstCells, sizeOf, typeInfo, hq, hn]
    rw [htk, hst]
    simp [Result.andThen, goInt]
theorem wpList_copy_string_part {ops : Array Oper} {rest : List Oper} {o : Oper} {a : Act} {w : World} {Q : Exit → Act → World → Prop} (hgd : o.guard = none) (d x : Operand) (dT sT : TypeId)
    (hop : o.op = Op.call { callee := Callee.builtin Builtin.copy, args := #[d, x], argTypes := #[dT, sT] }) (elem : TypeId) (g off dLen dCap : Nat) (s : ByteArray) (cur : Array Value) (t : TypeId) (n : Nat)
    (hd : a.eval d = .slice (some ⟨g, off, none⟩) dLen dCap) (hx : a.eval x = .string s) (hn : Nat.min s.size dLen = n)
    (hu : P.underlying dT = some (.slice elem)) (hs : (P.info? elem).map (·.size) = some 1) (hg : w.heap[g]? = some (.cells cur t (0, 0))) (hfit : off + n ≤ cur.size)
    (h : wpList P ops Q rest (a.put o.dst (.int .i64 n)) (w.setRow g (cur.toList.take off ++ byteV (s.data.toList.take n) ++ cur.toList.drop (off + n)).toArray)) : wpList P ops Q (o :: rest) a w := by
  refine wpList_plain hgd fun K hK => ?_
  have hrun := run_copy_string_part (P := P) w dT sT o.type elem g off dLen dCap s cur t n hn hu hs hg hfit
  unfold Oper.wp
  simp [execOp, hop, resolve, invoke, builtin, hd, hx, hrun, Result.andThen]
  rw [← List.append_assoc]
  exact hK _ _ h
theorem wpList_copy_string_list {ops : Array Oper} {rest : List Oper} {o : Oper} {a : Act} {w : World} {Q : Exit → Act → World → Prop} (hgd : o.guard = none) (d x : Operand) (dT sT : TypeId)
    (hop : o.op = Op.call { callee := Callee.builtin Builtin.copy, args := #[d, x], argTypes := #[dT, sT] }) (elem : TypeId) (g off dLen dCap : Nat) (s : ByteArray) (cl : List Value) (t : TypeId) (n : Nat)
    (hd : a.eval d = .slice (some ⟨g, off, none⟩) dLen dCap) (hx : a.eval x = .string s) (hn : Nat.min s.size dLen = n)
    (hu : P.underlying dT = some (.slice elem)) (hs : (P.info? elem).map (·.size) = some 1) (hg : w.heap[g]? = some (.cells cl.toArray t (0, 0))) (hfit : off + n ≤ cl.length)
    (h : wpList P ops Q rest (a.put o.dst (.int .i64 n)) (w.setRow g (cl.take off ++ byteV (s.data.toList.take n) ++ cl.drop (off + n)).toArray)) : wpList P ops Q (o :: rest) a w := by
  refine wpList_copy_string_part hgd d x dT sT hop elem g off dLen dCap s cl.toArray t n hd hx hn hu hs hg (by simpa using hfit) ?_
  rw [List.toList_toArray]; exact h
/-- A whole array into the middle of a row. -/
theorem run_storeVar_midrow (w : World) (g o : Nat) (ty : TypeId) (cells cur : Array Value) (t : TypeId) (hg : w.heap[g]? = some (.cells cur t (0, 0))) (hfit : o + cells.size ≤ cur.size) (hi : (P.info? ty).map (·.size) = some cells.size) (h1 : cells.all (·.oneCell') = true) :
    (storeVar ty ⟨g, o, none⟩ (.agg cells)).run P w = .ok () (w.setRow g (cur.toList.take o ++ cells.toList ++ cur.toList.drop (o + cells.size)).toArray) := by
  have := run_storeCells_at P g o t cells.toList 0 cur w hg (by simpa using hfit) (fun v hv => (Array.all_eq_true_iff_forall_mem.1 h1) v (by simpa using hv))
  simp only [Nat.add_zero, Array.length_toList] at this
  cases hq : P.info? ty with
  | none => simp [hq] at hi
  | some i =>
    have hs : cells.size = i.size := by simp [hq] at hi; omega
    simp [storeVar, sizeOf, typeInfo, hq, Value.cells, hs]
    rw [← hs, ← List.append_assoc]; exact this
theorem wpList_store_midrow {ops : Array Oper} {rest : List Oper} {op : Oper} {a : Act} {w : World} {Q : Exit → Act → World → Prop} (hgd : op.guard = none) (ty : TypeId) (x y : Operand) (ho : op.op = .store ty x y)
    (g o : Nat) (cells cur : Array Value) (t : TypeId) (hx : a.eval x = .pointer (some ⟨g, o, none⟩)) (hy : a.eval y = .agg cells)
    (hg : w.heap[g]? = some (.cells cur t (0, 0))) (hfit : o + cells.size ≤ cur.size) (hi : (P.info? ty).map (·.size) = some cells.size) (h1 : cells.all (·.oneCell') = true)
    (h : wpList P ops Q rest (a.put op.dst undef) (w.setRow g (cur.toList.take o ++ cells.toList ++ cur.toList.drop (o + cells.size)).toArray)) : wpList P ops Q (op :: rest) a w := by
  refine wpList_plain hgd fun K hK => ?_
  unfold Oper.wp execOp
  simp only [ho, hx, hy, Instr.storeAt, Instr.sureAddr, Sem.run_bind, Sem.run_pure, Result.andThen_ok, run_storeVar_midrow w g o ty cells cur t hg hfit hi h1]
  exact hK _ _ h
theorem wpList_store_midlist {ops : Array Oper} {rest : List Oper} {op : Oper} {a : Act} {w : World} {Q : Exit → Act → World → Prop} (hgd : op.guard = none) (ty : TypeId) (x y : Operand) (ho : op.op = .store ty x y)
    (g o : Nat) (cells : Array Value) (cl : List Value) (t : TypeId) (hx : a.eval x = .pointer (some ⟨g, o, none⟩)) (hy : a.eval y = .agg cells)
    (hg : w.heap[g]? = some (.cells cl.toArray t (0, 0))) (hfit : o + cells.size ≤ cl.length) (hi : (P.info? ty).map (·.size) = some cells.size) (h1 : cells.all (·.oneCell') = true)
    (h : wpList P ops Q rest (a.put op.dst undef) (w.setRow g (cl.take o ++ cells.toList ++ cl.drop (o + cells.size)).toArray)) : wpList P ops Q (op :: rest) a w := by
  refine wpList_store_midrow hgd ty x y ho g o cells cl.toArray t hx hy hg (by simpa using hfit) hi h1 ?_
  rw [List.toList_toArray]; exact h
theorem exec_store_list {op : Oper} {a : Act} {w : World} (ty : TypeId) (x y : Operand) (ho : op.op = .store ty x y)
    (g o : Nat) (cells : Array Value) (cl : List Value) (t : TypeId) (hx : a.eval x = .pointer (some ⟨g, o, none⟩)) (hy : a.eval y = .agg cells)
    (hg : w.heap[g]? = some (.cells cl.toArray t (0, 0))) (hfit : o + cells.size ≤ cl.length) (hi : (P.info? ty).map (·.size) = some cells.size) (h1 : cells.all (·.oneCell') = true) :
    (execOp a.eval op).run P w = .ok .skip (w.setRow g (cl.take o ++ cells.toList ++ cl.drop (o + cells.size)).toArray) := by
  have h := run_storeVar_midrow (P := P) w g o ty cells cl.toArray t hg (by simpa using hfit) hi h1
  rw [List.toList_toArray] at h
  unfold execOp
  simp only [ho, hx, hy, Instr.storeAt, Instr.sureAddr, Sem.run_bind, Sem.run_pure, Result.andThen_ok, h]
/-- A whole array read in a still region. -/
theorem wpStill_load_mid {ops : Array Oper} {rest : List Oper} {op : Oper} {a : Act} {w : World} {Q : Act → Prop} (hgd : op.guard = none) (ty : TypeId) (x : Operand) (ho : op.op = .load ty x)
    (b o : Nat) (hx : a.eval x = .pointer (some ⟨b, o, none⟩)) (cs : List Value) (C : Array Value) (hC : cs.toArray = C) (d : TypeDesc) (hc : w.rangeAt b o cs)
    (hu : P.underlying ty = some d) (hd : d.isRow = true) (hi : (P.info? ty).map (·.size) = some cs.length)
    (h : wpStill P ops w Q rest (a.put op.dst (.agg C))) : wpStill P ops w Q (op :: rest) a := by
  subst hC
  refine wpStill_step fun K hK => ?_
  have hw : Region.wanted op (yielded ops a.tmps) = true := by simp [Region.wanted, hgd]
  rw [if_pos hw]
  unfold Oper.still execOp
  simp only [ho, hx, Instr.loadAt, Instr.sureAddr, Sem.run_bind, Sem.run_pure, Result.andThen_ok, run_loadVar_mid w b o ty cs d hc hu hd hi]
  exact (Oper.stillUpon_value op a w K _).symm ▸ hK _ h
end

/-- A mix's cells. -/
def mixC (st : S8) (part : List UInt8) (held all : Nat) : List Value := st.words.map u32 ++ (byteV part ++ [.int .i64 held, .int .u64 all, .bool true])
theorem mixC_length {part : List UInt8} (hp : part.length = 64) (st : S8) (held all : Nat) : (mixC st part held all).length = 75 := by
  simp [mixC, byteV_length, hp, S8.words]
/-- Block g is a mix: the state and what is held; how many bytes it has taken. -/
def MixR (w : World) (g : Nat) (st : S8) (part : List UInt8) (held all : Nat) : Prop := w.heap[g]? = some (.cells (mixC st part held all).toArray 115 (0, 0)) ∧ part.length = 64
def MixW (w : World) (g : Nat) (m : S8 × List UInt8) (all : Nat) : Prop := m.2.length < 64 ∧ ∃ part, MixR w g m.1 part m.2.length all ∧ part.take m.2.length = m.2
theorem mix_get {part : List UInt8} (hp : part.length = 64) (st : S8) (held all j : Nat) : (mixC st part held all)[72 + j]? = [Value.int .i64 held, .int .u64 all, .bool true][j]? := by
  unfold mixC
  rw [List.getElem?_append_right (by simp [S8.words]; omega), List.getElem?_append_right (by rw [byteV_length]; simp [S8.words]; omega), byteV_length, hp]
  congr 1
  simp [S8.words]; omega
theorem MixR.cells {w : World} {g : Nat} {st : S8} {part : List UInt8} {held all : Nat} (h : MixR w g st part held all) :
    w.cell? ⟨g, 72, none⟩ = some (.int .i64 held) ∧ w.cell? ⟨g, 73, none⟩ = some (.int .u64 all) ∧ w.cell? ⟨g, 74, none⟩ = some (.bool true) := by
  have c : ∀ j, w.cell? ⟨g, 72 + j, none⟩ = [Value.int .i64 held, .int .u64 all, .bool true][j]? := fun j => by
    rw [blk_cell h.1, List.getElem?_toArray, mix_get h.2]
  exact ⟨c 0, c 1, c 2⟩
theorem mix_set {part : List UInt8} (hp : part.length = 64) (st : S8) (held all j : Nat) (v : Value) : (mixC st part held all).set (72 + j) v = st.words.map u32 ++ (byteV part ++ [Value.int .i64 held, .int .u64 all, .bool true].set j v) := by
  unfold mixC
  rw [List.set_append_right _ _ (by simp [S8.words]; omega), List.set_append_right _ _ (by rw [byteV_length]; simp [S8.words]; omega), byteV_length, hp]
  congr 3
  simp [S8.words]; omega
theorem MixR.held {w : World} {g : Nat} {st : S8} {part : List UInt8} {held all : Nat} (h : MixR w g st part held all) (n : Nat) {z : Int} (hz : z = (n : Int)) : MixR (w.setCell ⟨g, 72, none⟩ (.int .i64 z)) g st part n all := by
  subst hz
  refine ⟨?_, h.2⟩
  have e := mix_set h.2 st held all 0 (.int .i64 n)
  have := blk_set h.1 72 (.int .i64 (n : Int))
  rw [List.setIfInBounds_toArray, e] at this
  exact this
theorem MixR.all {w : World} {g : Nat} {st : S8} {part : List UInt8} {held all : Nat} (h : MixR w g st part held all) (n : Nat) {z : Int} (hz : z = (n : Int)) : MixR (w.setCell ⟨g, 73, none⟩ (.int .u64 z)) g st part held n := by
  subst hz
  refine ⟨?_, h.2⟩
  have e := mix_set h.2 st held all 1 (.int .u64 n)
  have := blk_set h.1 73 (.int .u64 (n : Int))
  rw [List.setIfInBounds_toArray, e] at this
  exact this
theorem MixR.drewN {w : World} {g : Nat} {st : S8} {part : List UInt8} {held all : Nat} (h : MixR w g st part held all) (n : Nat) : MixR (w.drewN n) g st part held all := h
theorem MixR.drew {w : World} {g : Nat} {st : S8} {part : List UInt8} {held all : Nat} (h : MixR w g st part held all) : MixR w.drew g st part held all := h
theorem MixR.frozen {w : World} {g : Nat} {st : S8} {part : List UInt8} {held all : Nat} (h : MixR w g st part held all) (o : Nat) : w.frozen? ⟨g, o, none⟩ = false := blk_frozen h.1 o
theorem MixR.below {w w1 : World} {g : Nat} {st : S8} {part : List UInt8} {held all : Nat} (h : MixR w g st part held all) (hb : Below w.heap.size w w1) : MixR w1 g st part held all := ⟨blk_below h.1 hb, h.2⟩
/-- n bytes laid over the part from held on. -/
def laidP (part : List UInt8) (held : Nat) (c : List UInt8) : List UInt8 := part.take held ++ (c ++ part.drop (held + c.length))
theorem laidP_length {part c : List UInt8} {held : Nat} (hp : part.length = 64) (h : held + c.length ≤ 64) : (laidP part held c).length = 64 := by
  simp only [laidP, List.length_append, List.length_take, List.length_drop]; omega
theorem MixR.copied {w : World} {g : Nat} {st : S8} {part : List UInt8} {held all : Nat} (h : MixR w g st part held all) (c : List UInt8) (hc : held + c.length ≤ 64) {n o1 o2 : Nat} (hn : n = c.length) (h1 : o1 = 8 + held) (h2 : o2 = 8 + held + n) :
    MixR (w.setRow g ((mixC st part held all).take o1 ++ byteV c ++ (mixC st part held all).drop o2).toArray) g st (laidP part held c) held all := by
  subst hn h1 h2
  have hp := h.2
  refine ⟨?_, laidP_length hp hc⟩
  have e : (mixC st part held all).take (8 + held) ++ byteV c ++ (mixC st part held all).drop (8 + held + c.length) = mixC st (laidP part held c) held all := by
    have hw : (st.words.map u32).length = 8 := by simp [S8.words]
    have hb : (byteV part).length = 64 := by rw [byteV_length, hp]
    unfold mixC
    rw [List.take_append, List.drop_append, hw, List.take_of_length_le (by omega), List.drop_of_length_le (by omega), List.nil_append, List.take_append_of_le_length (by omega), List.drop_append_of_le_length (by omega)]
    simp only [Nat.add_sub_cancel_left, show 8 + held + c.length - 8 = held + c.length by omega]
    simp [laidP, byteV, List.map_take, List.map_drop]
  rw [e]
  exact setRow_heap w g _ _ _ _ h.1
theorem MixR.state {w : World} {g : Nat} {st : S8} {part : List UInt8} {held all : Nat} (h : MixR w g st part held all) (st' : S8) {o1 o2 : Nat} (h1 : o1 = 0) (h2 : o2 = 8) :
    MixR (w.setRow g ((mixC st part held all).take o1 ++ (H8 st').toList ++ (mixC st part held all).drop o2).toArray) g st' part held all := by
  subst h1 h2
  refine ⟨?_, h.2⟩
  have e : (mixC st part held all).take 0 ++ (H8 st').toList ++ (mixC st part held all).drop 8 = mixC st' part held all := by
    unfold mixC
    rw [List.take_zero, List.nil_append, List.drop_append_of_le_length (by simp [S8.words]), List.drop_of_length_le (by simp [S8.words]), List.nil_append]
    rfl
  rw [e]
  exact setRow_heap w g _ _ _ _ h.1
theorem MixR.stateAt {w : World} {g : Nat} {st : S8} {part : List UInt8} {held all : Nat} (h : MixR w g st part held all) : w.rangeAt g 0 (st.words.map u32) := fun j v hv => by
  rw [blk_cell h.1, List.getElem?_toArray, Nat.zero_add]
  unfold mixC
  rw [List.getElem?_append_left (List.getElem?_eq_some_iff.1 hv).1]; exact hv
theorem MixR.partAt {w : World} {g : Nat} {st : S8} {part : List UInt8} {held all : Nat} (h : MixR w g st part held all) : w.rangeAt g 8 (byteV part) := fun j v hv => by
  rw [blk_cell h.1, List.getElem?_toArray]
  unfold mixC
  rw [List.getElem?_append_right (by simp [S8.words]), show 8 + j - (st.words.map u32).length = j by simp [S8.words], List.getElem?_append_left (List.getElem?_eq_some_iff.1 hv).1]
  exact hv
theorem size_64 : (Tryd.prog.info? 113).map (·.size) = some 64 := by kernel_rfl
theorem size_1 : (Tryd.prog.info? 5).map (·.size) = some 1 := by kernel_rfl
theorem yPart {ops : Array Oper} {S : World → Prop} {op : Oper} {a : Act} {g : Nat} {st : S8} {part : List UInt8} {held all : Nat} (hl : part.length = 64) (hS : ∀ w, S w → MixR w g st part held all) (hw : Region.wanted op (yielded ops a.tmps) = true) (x : Operand) (ho : op.op = .load 113 x)
    (hx : a.eval x = .pointer (some ⟨g, 8, none⟩)) : YieldsIf Tryd.prog ops S op (.agg (rowB part)) a :=
  yieldsIf_load_mid hw 113 x ho g 8 hx (byteV part) _ (fun w h => (hS w h).partAt) Tryd.underlying113 rfl (by rw [byteV_length, hl]; exact size_64)
theorem yState {ops : Array Oper} {S : World → Prop} {op : Oper} {a : Act} {g : Nat} {st : S8} {part : List UInt8} {held all : Nat} (hS : ∀ w, S w → MixR w g st part held all) (hw : Region.wanted op (yielded ops a.tmps) = true) (x : Operand) (ho : op.op = .load 112 x)
    (hx : a.eval x = .pointer (some ⟨g, 0, none⟩)) : YieldsIf Tryd.prog ops S op (.agg (H8 st)) a :=
  yieldsIf_load_mid hw 112 x ho g 0 hx (st.words.map u32) _ (fun w h => (hS w h).stateAt) Tryd.underlying112 rfl size_8
end Go.Proofs.YtiloadafnalhpaaDoor
