/-
  A row of stats in a block of the call's own.
  What the reference's Normal comes to; little laws of its walk.
-/
import Derived.Test.YtiloadafnalhpaaDoorJ6
import Derived.Test.YtiloadafnalhpaaDoorJ7
import Derived.Test.YtiloadafnalhpaaDoorPAx1
import Derived.Test.YtiloadafnalhpaaDoorJ8
import Derived.StillTailTactics
namespace Go.Proofs.YtiloadafnalhpaaDoor
open Go.RowKit Go.Proofs.YtiloadafnalhpaaDoorW.PrintWords Go.Proofs.YtiloadafnalhpaaDoorW.PrintLast Go.Proofs.YtiloadafnalhpaaDoorW.PrintMore
open Go.Proofs.YtiloadafnalhpaaDoor.PA
set_option linter.unusedVariables false
set_option linter.unusedSimpArgs false

abbrev St := S31
def encS (x : St) : List Value := [.int .i64 x.f0, .int .i64 x.f1, .int .i64 x.f2, .int .i64 x.f3, .int .i64 x.f4]
def flatS (l : List St) : List Value := l.flatMap encS
theorem encS_length (x : St) : (encS x).length = 5 := rfl
theorem flatS_cons (x : St) (l : List St) : flatS (x :: l) = encS x ++ flatS l := rfl
theorem flatS_append (a b : List St) : flatS (a ++ b) = flatS a ++ flatS b := by simp [flatS]
theorem flatS_length (l : List St) : (flatS l).length = l.length * 5 := by
  induction l with
  | nil => rfl
  | cons x l ih => rw [flatS_cons, List.length_append, ih, encS_length, List.length_cons]; omega
theorem flatS_get : ∀ (l : List St) (i j : Nat) (x : St), l[i]? = some x → j < 5 → (flatS l)[i * 5 + j]? = (encS x)[j]?
  | [], i, j, x, h, hj => by simp at h
  | y :: l, 0, j, x, h, hj => by
    obtain rfl : y = x := by simpa using h
    rw [flatS_cons, Nat.zero_mul, Nat.zero_add, List.getElem?_append_left (by rw [encS_length]; exact hj)]
  | y :: l, i + 1, j, x, h, hj => by
    rw [flatS_cons, List.getElem?_append_right (by rw [encS_length]; omega), encS_length, show (i + 1) * 5 + j - 5 = i * 5 + j by omega]
    exact flatS_get l i j x (by simpa using h) hj
theorem drop_cons_st {l : List St} {i : Nat} {x : St} (h : l[i]? = some x) : l.drop i = x :: l.drop (i + 1) := by
  obtain ⟨hi, hx⟩ := List.getElem?_eq_some_iff.1 h
  rw [List.drop_eq_getElem_cons hi, hx]
theorem flatS_split {ns : List St} {i : Nat} {x : St} (hx : ns[i]? = some x) : flatS ns = flatS (ns.take i) ++ (encS x ++ flatS (ns.drop (i + 1))) := by
  conv => lhs; rw [← List.take_append_drop i ns, drop_cons_st hx]
  rw [flatS_append, flatS_cons]
theorem flatS_set {ns : List St} {i : Nat} (hi : i < ns.length) (a b c d e : Int) :
    flatS (ns.set i ⟨a, b, c, d, e⟩) = (((((flatS ns).set (i * 5) (.int .i64 a)).set (i * 5 + 1) (.int .i64 b)).set (i * 5 + 2) (.int .i64 c)).set (i * 5 + 3) (.int .i64 d)).set (i * 5 + 4) (.int .i64 e) := by
  obtain ⟨x, hx⟩ : ∃ x, ns[i]? = some x := ⟨_, List.getElem?_eq_getElem hi⟩
  have hA : (flatS (ns.take i)).length = i * 5 := by rw [flatS_length, List.length_take]; congr 1; omega
  have hl : (ns.set i ⟨a, b, c, d, e⟩)[i]? = some ⟨a, b, c, d, e⟩ := by rw [List.getElem?_set_self hi]
  rw [flatS_split hl, flatS_split hx, List.take_set_of_le (Nat.le_refl _), List.drop_set_of_lt (Nat.lt_succ_self _)]
  have s0 : ∀ (B : List Value) (u : Value), (flatS (ns.take i) ++ B).set (i * 5) u = flatS (ns.take i) ++ B.set 0 u := fun B u => set_at _ B (i * 5) 0 hA u
  rw [s0, set_at _ _ _ 1 hA, set_at _ _ _ 2 hA, set_at _ _ _ 3 hA, set_at _ _ _ 4 hA]
  rfl
/-- Block g is a row of stats of the call's own. -/
def RowS (w : World) (g : Nat) (ss : List St) : Prop := w.heap[g]? = some (.cells (flatS ss).toArray 31 (0, 0))
theorem RowS.lt {w : World} {g : Nat} {ss : List St} (h : RowS w g ss) : g < w.heap.size := (Array.getElem?_eq_some_iff.1 h).1
theorem RowS.below {w w' : World} {g : Nat} {ss : List St} (h : RowS w g ss) (hb : Below w.heap.size w w') : RowS w' g ss := (hb.block g h.lt).trans h
theorem RowS.block {w w' : World} {g : Nat} {ss : List St} (h : RowS w g ss) (hb : w'.heap[g]? = w.heap[g]?) : RowS w' g ss := hb.trans h
theorem RowS.frozen {w : World} {g : Nat} {ss : List St} (h : RowS w g ss) (o : Nat) : w.frozen? ⟨g, o, none⟩ = false := blk_frozen h o
theorem RowS.cell {w : World} {g : Nat} {ss : List St} (h : RowS w g ss) (i : Nat) (x : St) (hx : ss[i]? = some x) :
    w.cell? ⟨g, i * 5, none⟩ = some (.int .i64 x.f0) ∧ w.cell? ⟨g, i * 5 + 1, none⟩ = some (.int .i64 x.f1) ∧ w.cell? ⟨g, i * 5 + 2, none⟩ = some (.int .i64 x.f2) ∧ w.cell? ⟨g, i * 5 + 3, none⟩ = some (.int .i64 x.f3) ∧ w.cell? ⟨g, i * 5 + 4, none⟩ = some (.int .i64 x.f4) := by
  have c : ∀ j, j < 5 → w.cell? ⟨g, i * 5 + j, none⟩ = (encS x)[j]? := fun j hj => by
    rw [blk_cell h, List.getElem?_toArray, flatS_get ss i j x hx hj]
  exact ⟨c 0 (by omega), c 1 (by omega), c 2 (by omega), c 3 (by omega), c 4 (by omega)⟩
theorem RowS.set {w : World} {g i : Nat} {ss : List St} (h : RowS w g ss) (hi : i < ss.length) (a b c d e : Int) :
    RowS (statW w g (i * 5) a b c d e) g (ss.set i ⟨a, b, c, d, e⟩) := by
  have h' := blk_set (blk_set (blk_set (blk_set (blk_set h (i * 5) (.int .i64 a)) (i * 5 + 1) (.int .i64 b)) (i * 5 + 2) (.int .i64 c)) (i * 5 + 3) (.int .i64 d)) (i * 5 + 4) (.int .i64 e)
  unfold RowS statW
  rw [flatS_set hi]
  simpa using h'
theorem zeros (k : Nat) : (madeCells (Value.agg #[.int .i64 0, .int .i64 0, .int .i64 0, .int .i64 0, .int .i64 0]).cells k).toList = List.replicate k (.int .i64 0) := by
  apply List.ext_getElem?
  intro i
  unfold madeCells
  rw [Array.toList_map, List.getElem?_map, Array.getElem?_toList, List.getElem?_replicate]
  by_cases hi : i < k
  · rw [Array.getElem?_range, if_pos hi, if_pos hi]
    have hm : ∀ m, m < 5 → (Value.agg #[Value.int .i64 0, .int .i64 0, .int .i64 0, .int .i64 0, .int .i64 0]).cells[m]! = Value.int .i64 0 := by
      intro m hm
      rcases m with _ | _ | _ | _ | _ | m
      · rfl
      · rfl
      · rfl
      · rfl
      · rfl
      · omega
    exact congrArg some (hm _ (Nat.mod_lt _ (by decide)))
  · rw [Array.getElem?_range, if_neg hi, if_neg hi]; rfl
theorem flatS_zero : ∀ n : Nat, flatS (List.replicate n z31) = List.replicate (n * 5) (.int .i64 0)
  | 0 => rfl
  | n + 1 => by
    rw [List.replicate_succ, flatS_cons, flatS_zero n, show (n + 1) * 5 = n * 5 + 1 + 1 + 1 + 1 + 1 by omega, List.replicate_succ, List.replicate_succ, List.replicate_succ, List.replicate_succ, List.replicate_succ]; rfl
theorem RowS.of_own {w : World} {base g n : Nat} (h : w.ownsRow base 31 5 (.slice (some ⟨g, 0, none⟩) n n) n (madeCells (Value.agg #[.int .i64 0, .int .i64 0, .int .i64 0, .int .i64 0, .int .i64 0]).cells (n * 5)).toList) : RowS w g (List.replicate n z31) := by
  rcases h.2 with ⟨he, _⟩ | ⟨g', cap', cur, he, hb, hh, hl, hm, hs, ht⟩
  · simp at he
  · simp only [Value.slice.injEq, Option.some.injEq, Addr.mk.injEq, and_true, true_and] at he
    obtain ⟨rfl, rfl⟩ := he
    have e : cur.toList = flatS (List.replicate n z31) := by
      rw [flatS_zero, ← zeros, ← ht, List.take_of_length_le (by simp; omega)]
    unfold RowS
    rw [hh, ← e]
theorem infoS : (Tryd.prog.info? 31).map (fun i => (i.zero, i.size, i.bytes)) = some (some (.agg #[.int .i64 0, .int .i64 0, .int .i64 0, .int .i64 0, .int .i64 0]), 5, 40) := by kernel_rfl
end Go.Proofs.YtiloadafnalhpaaDoor
namespace Go.Proofs.YtiloadafnalhpaaDoor
open Go.RowKit Go.Proofs.YtiloadafnalhpaaDoorW.PrintWords Go.Proofs.YtiloadafnalhpaaDoorW.PrintLast Go.Proofs.YtiloadafnalhpaaDoorW.PrintMore
open Go.Proofs.YtiloadafnalhpaaDoor.PA
set_option linter.unusedVariables false
set_option linter.unusedSimpArgs false

def insN (n : Nd) : List Nd → List Nd
  | [] => [n]
  | m :: t => if ordL (pth n) (pth m) < 0 then n :: m :: t else m :: insN n t
def refIns : List Nd → List Nd → Option (List Nd)
  | out, [] => some out
  | out, n :: l => if mayN n = true ∧ findIx out (pth n) = -1 then refIns (insN n out) l else none

def rootB : List Nd → Bool
  | [] => false
  | n :: _ => pth n == [47] && kind n == 2
def dirAt (out : List Nd) (i : Nat) (x : Nd) : Bool :=
  i == 0 || (match out[(findIx out (aboveB x.f0).data.toList).toNat]? with
    | some d => decide (0 ≤ findIx out (aboveB x.f0).data.toList) && kind d == 2
    | none => false)
def okFrom (i : Nat) (x : Nd) : Nat → List Nd → Bool
  | _, [] => true
  | k, y :: t => (ino y != ino x || k == i || (kind y == 1 && kind x == 1 && dat y == dat x)) && okFrom i x (k + 1) t
def refC (out : List Nd) : Nat → List Nd → Bool
  | _, [] => true
  | i, x :: t => dirAt out i x && okFrom i x 0 out && refC out (i + 1) t
def cnt (l : List Nd) (c : Int) : Int := (l.filter fun n => ino n == c).length
def statR (out : List Nd) (x : Nd) : S31 := ⟨firstIx out (ino x), 0, kind x, cnt out (ino x), (x.f2.size : Int)⟩
def labelR (out : List Nd) (x : Nd) : Nd := ⟨x.f0, statR out x, x.f2⟩
/-- What the reference's Normal answers. -/
def RefR (l : List Nd) (er : Int) (r : List Nd) : Prop :=
  (er = 5 ∧ r = [] ∧ (refIns [] l = none ∨ ∃ out, refIns [] l = some out ∧ (rootB out = false ∨ (rootB out = true ∧ refC out 0 out = false)))) ∨
  (er = 0 ∧ ∃ out, refIns [] l = some out ∧ rootB out = true ∧ refC out 0 out = true ∧ r = out.map (labelR out))

theorem refIns_no {out l : List Nd} {k : Nat} {x : Nd} (hx : l[k]? = some x) (hK : refIns out (l.drop k) = refIns [] l) (h : ¬ (mayN x = true ∧ findIx out (pth x) = -1)) : refIns [] l = none := by
  rw [← hK, drop_cons_nd hx, refIns, if_neg h]
theorem refIns_go {out l : List Nd} {k : Nat} {x : Nd} (hx : l[k]? = some x) (hK : refIns out (l.drop k) = refIns [] l) (h1 : mayN x = true) (h2 : findIx out (pth x) = -1) : refIns (insN x out) (l.drop (k + 1)) = refIns [] l := by
  rw [← hK, drop_cons_nd hx, refIns, if_pos ⟨h1, h2⟩]
theorem insN_length (x : Nd) : ∀ l : List Nd, (insN x l).length = l.length + 1
  | [] => rfl
  | m :: t => by unfold insN; split <;> simp [insN_length x t]
theorem insN_mem (x : Nd) : ∀ (l : List Nd) (n : Nd), n ∈ insN x l → n = x ∨ n ∈ l
  | [], n, h => by simp [insN] at h; exact .inl h
  | m :: t, n, h => by
    unfold insN at h
    split at h
    · rcases List.mem_cons.1 h with h | h
      · exact .inl h
      · exact .inr h
    · rcases List.mem_cons.1 h with h | h
      · exact .inr (by rw [h]; exact List.mem_cons_self)
      · rcases insN_mem x t n h with h | h
        · exact .inl h
        · exact .inr (List.mem_cons_of_mem _ h)

theorem node_add {w : World} {ad : Addr} {l : List Nd} (h : Kd.C k33 w (some ad) l.length l) {k : Nat} {x : Nd} (hx : l[k]? = some x) :
    w.cell? (ad.add (k * 7)) = some (.string x.f0) ∧ w.cell? ⟨(ad.add (k * 7)).block, (ad.add (k * 7)).off + 1, none⟩ = some (.int .i64 x.f1.f0) ∧ w.cell? ⟨(ad.add (k * 7)).block, (ad.add (k * 7)).off + 2, none⟩ = some (.int .i64 x.f1.f1) ∧ w.cell? ⟨(ad.add (k * 7)).block, (ad.add (k * 7)).off + 3, none⟩ = some (.int .i64 x.f1.f2) ∧ w.cell? ⟨(ad.add (k * 7)).block, (ad.add (k * 7)).off + 4, none⟩ = some (.int .i64 x.f1.f3) ∧ w.cell? ⟨(ad.add (k * 7)).block, (ad.add (k * 7)).off + 5, none⟩ = some (.int .i64 x.f1.f4) ∧ w.cell? ⟨(ad.add (k * 7)).block, (ad.add (k * 7)).off + 6, none⟩ = some (.string x.f2) := by
  have hk := (List.getElem?_eq_some_iff.1 hx).1
  obtain ⟨ad', e, c0, c1, c2, c3, c4, c5, c6⟩ := at_T33 h (k : Int) (by omega) (by omega)
  injection e with e; subst e
  have hrd : rd_T33 l (k : Int) = x := by unfold rd_T33; rw [Int.toNat_natCast, List.getD_eq_getElem?_getD, hx]; rfl
  rw [hrd] at c0 c1 c2 c3 c4 c5 c6
  rw [Int.toNat_natCast] at c0 c1 c2 c3 c4 c5 c6
  exact ⟨c0, c1, c2, c3, c4, c5, c6⟩
theorem new_cells (W : World) (x : Nd) : ∀ j u, (encN x)[j]? = some u → (W.alloc (.cells #[.string x.f0, .int .i64 x.f1.f0, .int .i64 x.f1.f1, .int .i64 x.f1.f2, .int .i64 x.f1.f3, .int .i64 x.f1.f4, .string x.f2] 33)).cell? ((⟨W.heap.size, 0, none⟩ : Addr).add j) = some u := by
  intro j u h
  rw [add_plain, blk_cell (t := 33) (blk_new _ _), ← h, ← Array.getElem?_toList]
  rfl

/-- A row of nodes of the call's own; nil where there is none. -/
abbrev OwnN (w : World) (base : Nat) (v : Value) (ns : List Nd) : Prop := w.ownsRow base 33 7 v ns.length (flatN ns)
theorem OwnN.reads {w : World} {base : Nat} {v : Value} {ns : List Nd} (h : OwnN w base v ns) : ∃ A c, v = .slice A ns.length c ∧ ns.length ≤ c ∧ Kd.C k33 w A ns.length ns := by
  obtain ⟨A, c, e, hr⟩ := own_reads_row h (flat_reps (k33.K w) (fun x => k33_mk w x) ns) rfl
  subst e
  exact ⟨A, c, rfl, own_le h, hr⟩
theorem OwnN.row {w : World} {base g cap n : Nat} {ns : List Nd} (h : OwnN w base (.slice (some ⟨g, 0, none⟩) n cap) ns) (hn : n = ns.length) : RowN w g cap ns := by subst hn; exact RowN.of_own h rfl
theorem OwnN.snoc {w : World} {base : Nat} {v : Value} {ns : List Nd} {x : Nd} (h : w.ownsRow base 33 7 v (ns.length + 1) (flatN ns ++ encN x)) : OwnN w base v (ns ++ [x]) := by
  unfold OwnN
  rw [List.length_append, flatN_append]
  exact h

theorem app_below {B : Nat} {w2 W W' : World} {v : Value} {n : Nat} {xs : List Value} {o : Obj} (hB : Below B w2 W) (hs : B ≤ W.heap.size) (hown : W.ownsRow B 33 7 v n xs) (hg : (W.alloc o).grownBy W' v.ownBlock) : Below B w2 W' :=
  (hB.alloc hs o).grown hg (by simp; omega) (fun k hk => own_base hown k hk)

theorem RowN.reads {w : World} {g cap : Nat} {ns : List Nd} (h : RowN w g cap ns) : Kd.C k33 w (some ⟨g, 0, none⟩) ns.length ns := by
  obtain ⟨cur, hh, hs, hn, hm, ht⟩ := h
  have ho : OwnN w 0 (.slice (some ⟨g, 0, none⟩) ns.length cap) ns := ⟨flatN_length ns, .inr ⟨g, cap, cur, rfl, Nat.zero_le _, hh, hn, hm, hs, ht⟩⟩
  obtain ⟨A, c, e, _, hr⟩ := ho.reads
  injection e with e1 e2 e3
  subst e1
  exact hr
theorem first_hit {out : List Nd} {j : Nat} {y : Nd} {c f : Int} (hf : f = firstIx (out.take j) c - 1) (hy : out[j]? = some y) (hc : ino y = c) (h : f < 0) : (j : Int) = firstIx (out.take (j + 1)) c - 1 := by
  have hj := (List.getElem?_eq_some_iff.1 hy).1
  have := firstIx_range (out.take j) c
  rw [take_snoc_nd hy, firstIx_snoc, if_pos (by omega), if_pos hc, List.length_take]; omega
theorem first_old {out : List Nd} {j : Nat} {y : Nd} {c f : Int} (hf : f = firstIx (out.take j) c - 1) (hy : out[j]? = some y) (h : ¬ f < 0) : f = firstIx (out.take (j + 1)) c - 1 := by
  rw [take_snoc_nd hy, firstIx_snoc, if_neg (by omega), hf]
theorem first_ne {out : List Nd} {j : Nat} {y : Nd} {c f : Int} (hf : f = firstIx (out.take j) c - 1) (hy : out[j]? = some y) (hc : ino y ≠ c) : f = firstIx (out.take (j + 1)) c - 1 := by
  rw [take_snoc_nd hy, firstIx_snoc, if_neg hc, hf]
  split
  · rename_i h; rw [h]
  · rfl
theorem cnt_hit {out : List Nd} {j : Nat} {y : Nd} {c lk : Int} (hl : lk = cnt (out.take j) c) (hy : out[j]? = some y) (hc : ino y = c) : lk + 1 = cnt (out.take (j + 1)) c := by
  rw [take_snoc_nd hy, hl]; unfold cnt; rw [List.filter_append, List.length_append]; simp [hc]
theorem cnt_ne {out : List Nd} {j : Nat} {y : Nd} {c lk : Int} (hl : lk = cnt (out.take j) c) (hy : out[j]? = some y) (hc : ino y ≠ c) : lk = cnt (out.take (j + 1)) c := by
  rw [take_snoc_nd hy, hl]; unfold cnt; rw [List.filter_append, List.length_append]; simp [hc]
theorem ok_step {out : List Nd} {i j : Nat} {x y : Nd} (hK : okFrom i x j (out.drop j) = okFrom i x 0 out) (hy : out[j]? = some y) (h : (ino y != ino x || j == i || (kind y == 1 && kind x == 1 && dat y == dat x)) = true) : okFrom i x (j + 1) (out.drop (j + 1)) = okFrom i x 0 out := by
  rw [← hK, drop_cons_nd hy, okFrom, h, Bool.true_and]
theorem ok_stop {out : List Nd} {i j : Nat} {x y : Nd} (hK : okFrom i x j (out.drop j) = okFrom i x 0 out) (hy : out[j]? = some y) (h : (ino y != ino x || j == i || (kind y == 1 && kind x == 1 && dat y == dat x)) = false) : okFrom i x 0 out = false := by
  rw [← hK, drop_cons_nd hy, okFrom, h, Bool.false_and]
theorem stat_at {out : List Nd} {k : Nat} (hk : k < out.length) : ((out.take k).map (statR out) ++ List.replicate (out.length - k) z31)[k]? = some z31 := by
  rw [List.getElem?_append_right (by simp; omega)]
  simp only [List.length_map, List.length_take]
  rw [List.getElem?_replicate, if_pos (by omega)]
theorem stat_next {out : List Nd} {k : Nat} {x : Nd} (hx : out[k]? = some x) {f lk : Int} (hf : f = firstIx out (ino x) - 1) (hl : lk = cnt out (ino x)) :
    ((out.take k).map (statR out) ++ List.replicate (out.length - k) z31).set k ⟨f + 1, 0, x.f1.f2, lk, (x.f2.size : Int)⟩ = (out.take (k + 1)).map (statR out) ++ List.replicate (out.length - (k + 1)) z31 := by
  have hk := (List.getElem?_eq_some_iff.1 hx).1
  have hlen : ((out.take k).map (statR out)).length = k := by simp; omega
  rw [take_snoc_nd hx, List.map_append, List.append_assoc, show out.length - k = (out.length - (k + 1)) + 1 by omega, List.replicate_succ]
  have e : ((out.take k).map (statR out) ++ z31 :: List.replicate (out.length - (k + 1)) z31).set k ⟨f + 1, 0, x.f1.f2, lk, (x.f2.size : Int)⟩ = (out.take k).map (statR out) ++ (z31 :: List.replicate (out.length - (k + 1)) z31).set 0 ⟨f + 1, 0, x.f1.f2, lk, (x.f2.size : Int)⟩ := set_at ((out.take k).map (statR out)) (z31 :: List.replicate (out.length - (k + 1)) z31) k 0 hlen ⟨f + 1, 0, x.f1.f2, lk, (x.f2.size : Int)⟩
  rw [e]
  have hs : statR out x = ⟨f + 1, 0, x.f1.f2, lk, (x.f2.size : Int)⟩ := by unfold statR; rw [hf, hl, Int.sub_add_cancel]; rfl
  simp [hs]
theorem labelR_step {s : List Nd} {k : Nat} {x : Nd} (hx : s[k]? = some x) :
    ((s.take k).map (labelR s) ++ s.drop k).set k ⟨x.f0, statR s x, x.f2⟩ = (s.take (k + 1)).map (labelR s) ++ s.drop (k + 1) := by
  have hk := (List.getElem?_eq_some_iff.1 hx).1
  rw [drop_cons_nd hx, take_snoc_nd hx, List.map_append, List.append_assoc]
  have hlen : ((s.take k).map (labelR s)).length = k := by simp; omega
  have e : ∀ y : Nd, ((s.take k).map (labelR s) ++ x :: s.drop (k + 1)).set k y = (s.take k).map (labelR s) ++ y :: s.drop (k + 1) := fun y => set_at ((s.take k).map (labelR s)) (x :: s.drop (k + 1)) k 0 hlen y
  rw [e]; rfl
/-- Where the node goes in: what has been laid, and what is still to come. -/
def Ins (x : Nd) (out : List Nd) (j : Nat) (next : List Nd) (done : Bool) : Prop :=
  if done = true then insN x out = next ++ out.drop j ∧ next.length = j + 1 else next = out.take j ∧ insN x out = out.take j ++ insN x (out.drop j)
theorem Ins.start (x : Nd) (out : List Nd) : Ins x out 0 [] false := ⟨by simp, by simp⟩
theorem Ins.hit {x y : Nd} {out next : List Nd} {j : Nat} (h : Ins x out j next false) (hy : out[j]? = some y) (hlt : ordL (pth x) (pth y) < 0) : Ins x out (j + 1) (next ++ [x] ++ [y]) true := by
  obtain ⟨h1, h2⟩ := h
  have hj := (List.getElem?_eq_some_iff.1 hy).1
  refine ⟨?_, ?_⟩
  · rw [h2, drop_cons_nd hy, insN, if_pos hlt, h1]; simp
  · rw [h1]; simp; omega
theorem Ins.miss {x y : Nd} {out next : List Nd} {j : Nat} (h : Ins x out j next false) (hy : out[j]? = some y) (hlt : ¬ ordL (pth x) (pth y) < 0) : Ins x out (j + 1) (next ++ [y]) false := by
  obtain ⟨h1, h2⟩ := h
  refine ⟨by rw [h1, take_snoc_nd hy], ?_⟩
  rw [h2, drop_cons_nd hy, insN, if_neg hlt, take_snoc_nd hy]; simp
theorem Ins.done {x y : Nd} {out next : List Nd} {j : Nat} (h : Ins x out j next true) (hy : out[j]? = some y) : Ins x out (j + 1) (next ++ [y]) true := by
  obtain ⟨h1, h2⟩ := h
  exact ⟨by rw [h1, drop_cons_nd hy]; simp, by simp; omega⟩
theorem Ins.last {x : Nd} {out next : List Nd} (h : Ins x out out.length next false) : insN x out = next ++ [x] := by
  obtain ⟨h1, h2⟩ := h
  rw [h2, h1]; simp [insN]
theorem Ins.full {x : Nd} {out next : List Nd} (h : Ins x out out.length next true) : insN x out = next := by
  obtain ⟨h1, h2⟩ := h
  rw [h1]; simp
theorem Ins.length {x : Nd} {out next : List Nd} {j : Nat} {done : Bool} (h : Ins x out j next done) (hj : j ≤ out.length) : next.length ≤ j + 1 := by
  cases done with
  | true => obtain ⟨_, h2⟩ := h; omega
  | false => obtain ⟨h1, _⟩ := h; rw [h1]; simp; omega

end Go.Proofs.YtiloadafnalhpaaDoor
