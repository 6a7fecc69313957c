/-
  What archive.Normal comes to, in plain words.
  PLAIN: how the tables of first places and of links grow, node by node.
  A node's numbers are written into its row.
-/
import Derived.Test.YtiloadafnalhpaaDoorJ5
namespace Go.Proofs.YtiloadafnalhpaaDoor
open Go.RowKit Go.Proofs.YtiloadafnalhpaaDoorW.PrintWords Go.Proofs.YtiloadafnalhpaaDoorW.PrintLast Go.Proofs.YtiloadafnalhpaaDoorW.PrintMore
open Go.Proofs.YtiloadafnalhpaaDoor.PA
set_option linter.unusedVariables false
set_option linter.unusedSimpArgs false

def ino (n : Nd) : Int := n.f1.f0
def kind (n : Nd) : Int := n.f1.f2
def mayN (n : Nd) : Bool := mayP (pth n) (dat n) (kind n)

/-- The place (from 1 on) of the first node of this number; 0: there is none. -/
def firstIx : List Nd → Int → Int
  | [], _ => 0
  | n :: l, c => if ino n = c then 1 else if firstIx l c = 0 then 0 else firstIx l c + 1
theorem firstIx_range : ∀ (l : List Nd) (c : Int), 0 ≤ firstIx l c ∧ firstIx l c ≤ l.length
  | [], c => by simp [firstIx]
  | n :: l, c => by
    have := firstIx_range l c
    unfold firstIx; split
    · simp; omega
    · split <;> simp <;> omega
theorem firstIx_append : ∀ (a b : List Nd) (c : Int), firstIx (a ++ b) c = if firstIx a c = 0 then (if firstIx b c = 0 then 0 else firstIx b c + a.length) else firstIx a c
  | [], b, c => by simp only [List.nil_append, firstIx, if_true, List.length_nil]; split <;> omega
  | n :: a, b, c => by
    have ih := firstIx_append a b c
    have ra := firstIx_range a c
    have rb := firstIx_range b c
    simp only [List.cons_append, firstIx, ih]
    by_cases h : ino n = c
    · simp [h]
    · simp only [if_neg h]
      by_cases ha : firstIx a c = 0
      · simp only [if_pos ha, if_true]
        by_cases hb : firstIx b c = 0
        · simp [hb]
        · simp only [if_neg hb, List.length_cons]
          rw [if_neg (by omega)]; omega
      · simp only [if_neg ha]
        rw [if_neg (by omega)]
theorem firstIx_snoc (a : List Nd) (n : Nd) (c : Int) : firstIx (a ++ [n]) c = if firstIx a c = 0 then (if ino n = c then (a.length : Int) + 1 else 0) else firstIx a c := by
  rw [firstIx_append]
  by_cases h : ino n = c
  · simp [firstIx, h]; omega
  · simp [firstIx, h]
theorem firstIx_self (a : List Nd) (n : Nd) : firstIx (a ++ [n]) (ino n) ≠ 0 := by
  rw [firstIx_snoc]; have := firstIx_range a (ino n); split
  · simp; omega
  · assumption
theorem firstIx_keep (a b : List Nd) (c : Int) (h : firstIx a c ≠ 0) : firstIx (a ++ b) c = firstIx a c := by
  rw [firstIx_append, if_neg h]

/-- How many nodes have their first at that place. -/
def links (l : List Nd) (k : Int) : Int := (l.filter fun n => firstIx l (ino n) == k).length

/-- Is the node's number free, or a file's with the same bytes? -/
def inoAt (before : List Nd) (n : Nd) : Bool :=
  match before[(firstIx before (ino n) - 1).toNat]? with
  | none => true
  | some x => firstIx before (ino n) == 0 || (kind n == 1 && kind x == 1 && dat x == dat n)
def inoFrom : List Nd → List Nd → Bool
  | _, [] => true
  | before, n :: l => inoAt before n && inoFrom (before ++ [n]) l
def inoB (l : List Nd) : Bool := inoFrom [] l

def label (l : List Nd) (n : Nd) : Nd :=
  ⟨n.f0, ⟨firstIx l (ino n), 0, kind n, links l (firstIx l (ino n)), (n.f2.size : Int)⟩, n.f2⟩
def relabel (l : List Nd) : List Nd := l.map (label l)

/-- What archive.Normal answers: the error, and the nodes. -/
def NormR (l : List Nd) (er : Int) (r : List Nd) : Prop :=
  (er = 5 ∧ r = [] ∧ ((∃ n ∈ l, mayN n = false) ∨ ((∀ n ∈ l, mayN n = true) ∧ ∃ s : List Nd, s.Perm l ∧ Sorted s ∧ (placedB s = false ∨ (placedB s = true ∧ inoB s = false))))) ∨
  (er = 0 ∧ (∀ n ∈ l, mayN n = true) ∧ ∃ s : List Nd, s.Perm l ∧ Sorted s ∧ placedB s = true ∧ inoB s = true ∧ r = relabel s)

/-- Sizes and numbers that Go's values keep. -/
def GoodN (n : Nd) : Prop := n.f0.size ≤ 4611686018427387903 ∧ n.f2.size ≤ 4611686018427387903 ∧ -9223372036854775808 ≤ n.f1.f0 ∧ n.f1.f0 ≤ 9223372036854775807

theorem segs_noNul : ∀ (l : List UInt8), (∀ x ∈ segs l, ∀ b ∈ x, b ≠ 0) → noNul l
  | [], _ => by intro b hb; cases hb
  | b :: l, h => by
    unfold segs at h
    intro c hc
    by_cases e : b = 47
    · rw [if_pos e] at h
      rcases List.mem_cons.1 hc with rfl | hc
      · rw [e]; decide
      · exact segs_noNul l (fun x hx => h x (List.mem_cons_of_mem _ hx)) c hc
    · rw [if_neg e] at h
      obtain ⟨y, t, hs⟩ : ∃ y t, segs l = y :: t := List.exists_cons_of_ne_nil (segs_ne l)
      rcases List.mem_cons.1 hc with rfl | hc
      · exact h _ (List.mem_cons_self) c (List.mem_cons_self)
      · refine segs_noNul l (fun x hx d hd => ?_) c hc
        rw [hs] at hx h
        rcases List.mem_cons.1 hx with rfl | hx
        · exact h _ List.mem_cons_self d (List.mem_cons_of_mem _ hd)
        · exact h x (List.mem_cons_of_mem _ hx) d hd
theorem nameE_ok {l : List UInt8} (h : nameE l = 0) : ∀ b ∈ l, okB b = true := by
  unfold nameE at h
  split at h
  · cases h
  · split at h
    · cases h
    · split at h
      · rename_i hh; exact fun b hb => List.all_eq_true.1 hh b hb
      · cases h
theorem namesE_ok : ∀ {L : List (List UInt8)}, namesE L = 0 → ∀ x ∈ L, nameE x = 0
  | [], _, x, hx => by cases hx
  | y :: L, h, x, hx => by
    unfold namesE at h
    split at h
    · rename_i hy
      rcases List.mem_cons.1 hx with rfl | hx
      · exact hy
      · exact namesE_ok h x hx
    · rename_i hy; exact absurd h hy
/-- What a path that may be is. -/
theorem splitE_ok {l : List UInt8} (h : splitE l = 0) : l.length ≤ 255 ∧ l.head? = some 47 ∧ noNul l := by
  unfold splitE at h
  split at h
  · cases h
  · rename_i h1
    split at h
    · cases h
    · split at h
      · cases h
      · rename_i h2 h3
        have hh : l.head? = some 47 := by simpa using h3
        refine ⟨by omega, hh, ?_⟩
        cases l with
        | nil => cases hh
        | cons b t =>
          have hb : b = 47 := by simpa using hh
          subst hb
          intro c hc
          rcases List.mem_cons.1 hc with rfl | hc
          · decide
          · split at h
            · rename_i h4; simp at h4; subst h4; cases hc
            · refine segs_noNul t (fun x hx d hd => ?_) c hc
              have := nameE_ok (namesE_ok h x hx) d hd
              intro e; subst e; revert this; decide
theorem mayN_path {n : Nd} (h : mayN n = true) : splitE (pth n) = 0 := by
  unfold mayN mayP at h; simp only [Bool.and_eq_true, beq_iff_eq] at h; exact h.1
theorem mayN_ok {n : Nd} (h : mayN n = true) : okPath n := by
  obtain ⟨a, b, c⟩ := splitE_ok (mayN_path h); exact ⟨c, a⟩
theorem mayN_above {n : Nd} (h : mayN n = true) : 0 ≤ Lib.lastIndexByte n.f0 47 := by
  obtain ⟨a, b, c⟩ := splitE_ok (mayN_path h)
  rcases Lib.lastIndexByte_spec n.f0 47 with ⟨_, hno⟩ | ⟨i, _, e, _⟩
  · exfalso
    have hp : 0 < n.f0.size := by
      rw [← toList_size n.f0]
      cases hh : n.f0.data.toList with
      | nil => rw [pth, hh] at b; cases b
      | cons _ _ => simp
    apply hno 0 hp
    have : n.f0.data.toList[0]? = some 47 := by rw [← List.head?_eq_getElem?]; exact b
    rw [Array.getElem?_toList] at this
    rw [getElem!_def, this]; rfl
  · omega
end Go.Proofs.YtiloadafnalhpaaDoor
namespace Go.Proofs.YtiloadafnalhpaaDoor
open Go.RowKit Go.Proofs.YtiloadafnalhpaaDoorW.PrintWords Go.Proofs.YtiloadafnalhpaaDoorW.PrintLast Go.Proofs.YtiloadafnalhpaaDoorW.PrintMore
open Go.Proofs.YtiloadafnalhpaaDoor.PA
set_option linter.unusedVariables false
set_option linter.unusedSimpArgs false

theorem firstIx_mem : ∀ {l : List Nd} {n : Nd}, n ∈ l → firstIx l (ino n) ≠ 0
  | m :: l, n, h => by
    unfold firstIx
    by_cases e : ino m = ino n
    · simp [e]
    · rw [if_neg e]
      rcases List.mem_cons.1 h with rfl | h
      · exact absurd rfl e
      · have := firstIx_mem h; have := firstIx_range l (ino n); rw [if_neg (by assumption)]; omega
theorem links_snoc (l : List Nd) (x : Nd) (k : Int) : links (l ++ [x]) k = links l k + if firstIx (l ++ [x]) (ino x) = k then 1 else 0 := by
  unfold links
  rw [List.filter_append]
  have h1 : (l.filter fun n => firstIx (l ++ [x]) (ino n) == k) = l.filter fun n => firstIx l (ino n) == k :=
    List.filter_congr fun n hn => by rw [firstIx_keep l [x] (ino n) (firstIx_mem hn)]
  rw [h1]
  by_cases h : firstIx (l ++ [x]) (ino x) = k
  · simp [List.filter_cons, h]
  · have : (firstIx (l ++ [x]) (ino x) == k) = false := beq_eq_false_iff_ne.mpr h
    simp [List.filter_cons, this, h]
theorem links_range (l : List Nd) (k : Int) : 0 ≤ links l k ∧ links l k ≤ l.length := by
  unfold links; have := List.length_filter_le (fun n : Nd => firstIx l (ino n) == k) l; omega

def firstK (l : List Nd) : Lit → Int
  | .int .i64 c => firstIx l c
  | _ => 0
def linksK (l : List Nd) : Lit → Int
  | .int .i64 c => links l c
  | _ => 0

open Classical in
theorem firstK_new {s : List Nd} {k : Nat} {x : Nd} (hx : s[k]? = some x) (h : firstIx (s.take k) (ino x) = 0) (kk : Lit) : (if kk = .int .i64 (ino x) then (k : Int) + 1 else firstK (s.take k) kk) = firstK (s.take (k + 1)) kk := by
  have hk := (List.getElem?_eq_some_iff.1 hx).1
  rw [take_snoc_nd hx]
  cases kk with
  | int q c =>
    cases q with
    | i64 =>
      show (if Lit.int .i64 c = .int .i64 (ino x) then (k : Int) + 1 else firstIx (s.take k) c) = firstIx (s.take k ++ [x]) c
      rw [firstIx_snoc]
      by_cases e : c = ino x
      · subst e
        rw [if_pos rfl, if_pos h, if_pos rfl]
        simp; omega
      · rw [if_neg (by simpa using e)]
        split
        · rw [if_neg (fun h => e h.symm)]; assumption
        · rfl
    | _ => simp [firstK]
  | _ => simp [firstK]
theorem firstK_old {s : List Nd} {k : Nat} {x : Nd} (hx : s[k]? = some x) (h : firstIx (s.take k) (ino x) ≠ 0) (kk : Lit) : firstK (s.take k) kk = firstK (s.take (k + 1)) kk := by
  rw [take_snoc_nd hx]
  cases kk with
  | int q c =>
    cases q with
    | i64 =>
      show firstIx (s.take k) c = firstIx (s.take k ++ [x]) c
      rw [firstIx_snoc]
      split
      · rename_i e
        rw [if_neg (fun hh => by rw [hh] at h; exact h e)]; exact e
      · rfl
    | _ => rfl
  | _ => rfl
theorem first_next {s : List Nd} {k : Nat} {x : Nd} (hx : s[k]? = some x) : firstIx (s.take (k + 1)) (ino x) = if firstIx (s.take k) (ino x) = 0 then (k : Int) + 1 else firstIx (s.take k) (ino x) := by
  have hk := (List.getElem?_eq_some_iff.1 hx).1
  rw [take_snoc_nd hx, firstIx_snoc, if_pos rfl]
  split
  · simp; omega
  · rfl
open Classical in
theorem linksK_next {s : List Nd} {k : Nat} {x : Nd} {f : Int} (hx : s[k]? = some x) (hf : firstIx (s.take (k + 1)) (ino x) = f) (kk : Lit) : (if kk = .int .i64 f then links (s.take k) f + 1 else linksK (s.take k) kk) = linksK (s.take (k + 1)) kk := by
  have hf' : firstIx (s.take k ++ [x]) (ino x) = f := by rw [← take_snoc_nd hx]; exact hf
  rw [take_snoc_nd hx]
  cases kk with
  | int q c =>
    cases q with
    | i64 =>
      show (if Lit.int .i64 c = .int .i64 f then links (s.take k) f + 1 else links (s.take k) c) = links (s.take k ++ [x]) c
      rw [links_snoc, hf']
      by_cases e : c = f
      · subst e; simp
      · rw [if_neg (by simpa using e), if_neg (fun h => e h.symm)]; simp
    | _ => simp [linksK]
  | _ => simp [linksK]

theorem firstK_nil (kk : Lit) : firstK [] kk = 0 := by
  cases kk with
  | int q c => cases q <;> rfl
  | _ => rfl
theorem linksK_nil (kk : Lit) : linksK [] kk = 0 := by
  cases kk with
  | int q c => cases q <;> rfl
  | _ => rfl

theorem inoAt_new {b : List Nd} {x : Nd} (h : firstIx b (ino x) = 0) : inoAt b x = true := by
  unfold inoAt; split <;> simp [h]
theorem inoAt_old {b : List Nd} {x y : Nd} {m : Nat} (h : firstIx b (ino x) = (m : Int) + 1) (hy : b[m]? = some y) : inoAt b x = (kind x == 1 && kind y == 1 && dat y == dat x) := by
  unfold inoAt
  rw [h, show ((m : Int) + 1 - 1).toNat = m by omega, hy]
  have : (((m : Int) + 1) == 0) = false := beq_eq_false_iff_ne.mpr (by omega)
  simp [this]
theorem ino_step {s : List Nd} {k : Nat} {x : Nd} (hx : s[k]? = some x) (hK : inoFrom (s.take k) (s.drop k) = inoB s) (h : inoAt (s.take k) x = true) : inoFrom (s.take (k + 1)) (s.drop (k + 1)) = inoB s := by
  rw [← hK, drop_cons_nd hx, take_snoc_nd hx]
  show _ = (inoAt (s.take k) x && inoFrom (s.take k ++ [x]) (s.drop (k + 1)))
  rw [h, Bool.true_and]
theorem ino_false {s : List Nd} {k : Nat} {x : Nd} (hx : s[k]? = some x) (hK : inoFrom (s.take k) (s.drop k) = inoB s) (h : inoAt (s.take k) x = false) : inoB s = false := by
  rw [← hK, drop_cons_nd hx]
  show (inoAt (s.take k) x && _) = false
  rw [h, Bool.false_and]
end Go.Proofs.YtiloadafnalhpaaDoor
namespace Go.Proofs.YtiloadafnalhpaaDoor
open Go.RowKit Go.Proofs.YtiloadafnalhpaaDoorW.PrintWords Go.Proofs.YtiloadafnalhpaaDoorW.PrintLast Go.Proofs.YtiloadafnalhpaaDoorW.PrintMore
open Go.Proofs.YtiloadafnalhpaaDoor.PA
set_option linter.unusedVariables false
set_option linter.unusedSimpArgs false

theorem flatN_split {ns : List Nd} {i : Nat} {x : Nd} (hx : ns[i]? = some x) : flatN ns = flatN (ns.take i) ++ (encN x ++ flatN (ns.drop (i + 1))) := by
  conv => lhs; rw [← List.take_append_drop i ns, drop_cons_nd hx]
  rw [flatN_append, flatN_cons]
theorem set_at {α : Type} (A B : List α) (n j : Nat) (h : A.length = n) (u : α) : (A ++ B).set (n + j) u = A ++ B.set j u := by
  subst h; rw [List.set_append_right _ _ (by omega)]; congr 2; omega
theorem flatN_stat {ns : List Nd} {i : Nat} {x : Nd} (hx : ns[i]? = some x) (a b c d e : Int) :
    flatN (ns.set i ⟨x.f0, ⟨a, b, c, d, e⟩, x.f2⟩) = (((((flatN ns).set (i * 7 + 1) (.int .i64 a)).set (i * 7 + 2) (.int .i64 b)).set (i * 7 + 3) (.int .i64 c)).set (i * 7 + 4) (.int .i64 d)).set (i * 7 + 5) (.int .i64 e) := by
  have hi := (List.getElem?_eq_some_iff.1 hx).1
  have hA : (flatN (ns.take i)).length = i * 7 := by rw [flatN_length, List.length_take]; congr 1; omega
  have hl : (ns.set i ⟨x.f0, ⟨a, b, c, d, e⟩, x.f2⟩)[i]? = some ⟨x.f0, ⟨a, b, c, d, e⟩, x.f2⟩ := by rw [List.getElem?_set_self hi]
  rw [flatN_split hl, flatN_split hx, List.take_set_of_le (Nat.le_refl _), List.drop_set_of_lt (Nat.lt_succ_self _)]
  rw [set_at _ _ _ 1 hA, set_at _ _ _ 2 hA, set_at _ _ _ 3 hA, set_at _ _ _ 4 hA, set_at _ _ _ 5 hA]
  rfl
theorem take_setIf (cur : Array Value) (m o : Nat) (u : Value) (hm : m ≤ cur.size) : (cur.setIfInBounds o u).toList.take m = (cur.toList.take m).set o u := by
  rw [Array.toList_setIfInBounds, List.take_set]

def statW (w : World) (g o : Nat) (a b c d e : Int) : World :=
  ((((w.setCell ⟨g, o, none⟩ (.int .i64 a)).setCell ⟨g, o + 1, none⟩ (.int .i64 b)).setCell ⟨g, o + 2, none⟩ (.int .i64 c)).setCell ⟨g, o + 3, none⟩ (.int .i64 d)).setCell ⟨g, o + 4, none⟩ (.int .i64 e)
theorem statW_size (w : World) (g o : Nat) (a b c d e : Int) : (statW w g o a b c d e).heap.size = w.heap.size := by unfold statW; simp
theorem statW_other (w : World) (g o : Nat) (a b c d e : Int) (k : Nat) (h : k ≠ g) : (statW w g o a b c d e).heap[k]? = w.heap[k]? := by
  unfold statW
  rw [Below.heap_setCell _ _ _ _ h, Below.heap_setCell _ _ _ _ h, Below.heap_setCell _ _ _ _ h, Below.heap_setCell _ _ _ _ h, Below.heap_setCell _ _ _ _ h]
theorem statW_below {B : Nat} {w0 w : World} (h : Below B w0 w) (g o : Nat) (a b c d e : Int) (hg : B ≤ g) : Below B w0 (statW w g o a b c d e) :=
  ((((h.setCell (p := ⟨g, o, none⟩) hg _).setCell (p := ⟨g, o + 1, none⟩) hg _).setCell (p := ⟨g, o + 2, none⟩) hg _).setCell (p := ⟨g, o + 3, none⟩) hg _).setCell (p := ⟨g, o + 4, none⟩) hg _
theorem RowN.stat {w : World} {g cap i : Nat} {ns : List Nd} {x : Nd} (h : RowN w g cap ns) (hx : ns[i]? = some x) (a b c d e : Int) :
    RowN (statW w g (i * 7 + 1) a b c d e) g cap (ns.set i ⟨x.f0, ⟨a, b, c, d, e⟩, x.f2⟩) := by
  obtain ⟨cur, hh, hs, hn, hm, ht⟩ := h
  refine ⟨_, blk_set (blk_set (blk_set (blk_set (blk_set hh _ _) _ _) _ _) _ _) _ _, by simp [hs], by simpa using hn, hm, ?_⟩
  rw [List.length_set, flatN_stat hx, ← ht]
  have hle : ns.length * 7 ≤ cur.size := by rw [hs]; omega
  rw [take_setIf _ _ _ _ (by simpa using hle), take_setIf _ _ _ _ (by simpa using hle), take_setIf _ _ _ _ (by simpa using hle), take_setIf _ _ _ _ (by simpa using hle), take_setIf _ _ _ _ hle]
/-- One node more has its numbers. -/
theorem label_step {s : List Nd} {k : Nat} {x : Nd} (hx : s[k]? = some x) {f lk : Int} (hf : firstIx s (ino x) = f) (hl : links s f = lk) :
    ((s.take k).map (label s) ++ s.drop k).set k ⟨x.f0, ⟨f, 0, x.f1.f2, lk, (x.f2.size : Int)⟩, x.f2⟩ = (s.take (k + 1)).map (label s) ++ s.drop (k + 1) := by
  have hk := (List.getElem?_eq_some_iff.1 hx).1
  rw [drop_cons_nd hx, take_snoc_nd hx, List.map_append, List.append_assoc]
  have hlen : ((s.take k).map (label s)).length = k := by simp; omega
  have e : ∀ y : Nd, ((s.take k).map (label s) ++ x :: s.drop (k + 1)).set k y = (s.take k).map (label s) ++ y :: s.drop (k + 1) := fun y => set_at ((s.take k).map (label s)) (x :: s.drop (k + 1)) k 0 hlen y
  rw [e]
  have hlab : label s x = ⟨x.f0, ⟨f, 0, x.f1.f2, lk, (x.f2.size : Int)⟩, x.f2⟩ := by unfold label; rw [hf, hl]; rfl
  simp [hlab]
end Go.Proofs.YtiloadafnalhpaaDoor
