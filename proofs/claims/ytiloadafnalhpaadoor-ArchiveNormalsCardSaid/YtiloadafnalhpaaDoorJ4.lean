/-
  A row of nodes in a block of the call's own: 'RowN'; what appending, the sort and stores do to it.
  The sort, said of a row of nodes: behind it the row holds a permutation, in the order of the paths; nothing else has turned.
  A map to whole numbers that the call has made, said key by key; and the walk of archive.above.
-/
import Derived.Test.YtiloadafnalhpaaDoorJ3
import Derived.Maps.Own
import Derived.Maps.OwnOps
import Derived.Maps.Views
import Derived.Maps.Keyed
import Derived.StringKeys
import Derived.Lib.LastIndexByte
namespace Go.Proofs.YtiloadafnalhpaaDoor
open Go.RowKit Go.Proofs.YtiloadafnalhpaaDoorW.PrintWords Go.Proofs.YtiloadafnalhpaaDoorW.PrintLast Go.Proofs.YtiloadafnalhpaaDoorW.PrintMore
open Go.Proofs.YtiloadafnalhpaaDoor.PA Go.Shelf Go.Sort
set_option linter.unusedVariables false
set_option linter.unusedSimpArgs false

theorem encN_length (x : Nd) : (encN x).length = 7 := rfl
theorem encN_one (x : Nd) : ∀ v ∈ encN x, v.oneCell' = true := by
  intro v hv; simp [encN] at hv; rcases hv with rfl | rfl | rfl | rfl | rfl | rfl | rfl <;> rfl

def flatN (l : List Nd) : List Value := l.flatMap encN
theorem flatN_nil : flatN [] = [] := rfl
theorem flatN_cons (x : Nd) (l : List Nd) : flatN (x :: l) = encN x ++ flatN l := rfl
theorem flatN_append (a b : List Nd) : flatN (a ++ b) = flatN a ++ flatN b := by simp [flatN]
theorem flatN_length (l : List Nd) : (flatN l).length = l.length * 7 := by
  induction l with
  | nil => rfl
  | cons x l ih => rw [flatN_cons, List.length_append, ih, encN_length, List.length_cons]; omega
theorem flatN_get : ∀ (l : List Nd) (i j : Nat) (x : Nd), l[i]? = some x → j < 7 → (flatN l)[i * 7 + j]? = (encN x)[j]?
  | [], i, j, x, h, hj => by simp at h
  | y :: l, 0, j, x, h, hj => by
    obtain rfl : y = x := by simpa using h
    rw [flatN_cons, Nat.zero_mul, Nat.zero_add, List.getElem?_append_left (by rw [encN_length]; exact hj)]
  | y :: l, i + 1, j, x, h, hj => by
    rw [flatN_cons, List.getElem?_append_right (by rw [encN_length]; omega), encN_length, show (i + 1) * 7 + j - 7 = i * 7 + j by omega]
    exact flatN_get l i j x (by simpa using h) hj
theorem flatN_drop (l : List Nd) (i : Nat) : (flatN l).drop (i * 7) = flatN (l.drop i) := by
  induction i generalizing l with
  | zero => simp
  | succ i ih =>
    cases l with
    | nil => simp [flatN]
    | cons x l =>
      rw [flatN_cons, List.drop_succ_cons, ← ih l, show (i + 1) * 7 = 7 + i * 7 by omega, ← List.drop_drop]
      rfl
theorem flatN_item (l : List Nd) (i : Nat) (x : Nd) (h : l[i]? = some x) : ((flatN l).drop (i * 7)).take 7 = encN x := by
  rw [flatN_drop]
  obtain ⟨hi, hx⟩ := List.getElem?_eq_some_iff.1 h
  rw [List.drop_eq_getElem_cons hi, hx, flatN_cons]
  rfl
theorem flat_reps (R : Nd → List Value → Prop) (hR : ∀ x, R x (encN x)) (l : List Nd) : Reps R 7 l (flatN l) :=
  ⟨flatN_length l, fun j p hj => by rw [flatN_item l j p hj]; exact hR p⟩
theorem reps_flat {R : Nd → List Value → Prop} (hR : ∀ x c, R x c → c = encN x) : ∀ {l : List Nd} {inner : List Value}, Reps R 7 l inner → inner = flatN l
  | [], inner, h => by have := h.1; simp at this; subst this; rfl
  | x :: l, inner, h => by
    have h0 : inner.take 7 = encN x := hR x _ (by have := h.2 0 x rfl; simpa using this)
    have ht : Reps R 7 l (inner.drop 7) := ⟨by have := h.1; simp at this ⊢; omega, fun j p hj => by
      have := h.2 (j + 1) p (by simpa using hj)
      rw [List.drop_drop, show 7 + j * 7 = (j + 1) * 7 by omega]; exact this⟩
    rw [flatN_cons, ← h0, ← reps_flat hR ht, List.take_append_drop]

/-- Block g is a row of nodes of the call's own: ns stand at its head. -/
def RowN (w : World) (g cap : Nat) (ns : List Nd) : Prop :=
  ∃ cur : Array Value, w.heap[g]? = some (.cells cur 33 (0, 0)) ∧ cur.size = cap * 7 ∧ ns.length ≤ cap ∧ cap ≤ 9223372036854775807 ∧ cur.toList.take (ns.length * 7) = flatN ns

theorem RowN.lt {w : World} {g cap : Nat} {ns : List Nd} (h : RowN w g cap ns) : g < w.heap.size := by
  obtain ⟨cur, hh, _⟩ := h; exact (Array.getElem?_eq_some_iff.1 hh).1
theorem RowN.below {w w' : World} {g cap : Nat} {ns : List Nd} (h : RowN w g cap ns) (hb : Below w.heap.size w w') : RowN w' g cap ns := by
  obtain ⟨cur, hh, r⟩ := h
  exact ⟨cur, (hb.block g (Array.getElem?_eq_some_iff.1 hh).1).trans hh, r⟩
theorem RowN.block {w w' : World} {g cap : Nat} {ns : List Nd} (h : RowN w g cap ns) (hb : w'.heap[g]? = w.heap[g]?) : RowN w' g cap ns := by
  obtain ⟨cur, hh, r⟩ := h
  exact ⟨cur, hb.trans hh, r⟩
theorem RowN.cell {w : World} {g cap : Nat} {ns : List Nd} (h : RowN w g cap ns) (i j : Nat) (x : Nd) (hx : ns[i]? = some x) (hj : j < 7) : w.cell? ⟨g, i * 7 + j, none⟩ = (encN x)[j]? := by
  obtain ⟨cur, hh, hs, hn, hm, ht⟩ := h
  have hi := (List.getElem?_eq_some_iff.1 hx).1
  rw [blk_cell hh, ← Array.getElem?_toList, ← flatN_get ns i j x hx hj, ← ht, List.getElem?_take, if_pos (by omega)]
theorem RowN.frozen {w : World} {g cap : Nat} {ns : List Nd} (h : RowN w g cap ns) (o : Nat) : w.frozen? ⟨g, o, none⟩ = false := by
  obtain ⟨cur, hh, _⟩ := h; exact blk_frozen hh o
theorem RowN.room {w : World} {g cap : Nat} {ns : List Nd} (h : RowN w g cap ns) : ns.length ≤ cap := by
  obtain ⟨cur, hh, hs, hn, _⟩ := h; exact hn

theorem RowN.of_own {w : World} {base g cap n : Nat} {ns : List Nd} (h : w.ownsRow base 33 7 (.slice (some ⟨g, 0, none⟩) n cap) n (flatN ns)) (hn : n = ns.length) : RowN w g cap ns := by
  subst hn
  rcases h.2 with ⟨he, _⟩ | ⟨g', cap', cur, he, hb, hh, hl, hm, hs, ht⟩
  · simp at he
  · simp only [Value.slice.injEq, Option.some.injEq, Addr.mk.injEq, and_true, true_and] at he
    obtain ⟨rfl, rfl⟩ := he
    exact ⟨cur, hh, hs, hl, hm, ht⟩
theorem RowN.made {w : World} {base g cap : Nat} {ns : List Nd} (h : RowN w g cap ns) (hb : base ≤ g) : Kd.R k33 33 w base (fun _ => True) (.slice (some ⟨g, 0, none⟩) ns.length cap) ns := by
  obtain ⟨cur, hh, hs, hn, hm, ht⟩ := h
  refine ⟨fun _ _ => trivial, flatN ns, ⟨flatN_length ns, .inr ⟨g, cap, cur, rfl, hb, hh, hn, hm, hs, ht⟩⟩, ?_⟩
  exact flat_reps _ (fun x => k33_mkM w base _ x) ns

/-- The row, as the sort asks of it. -/
theorem RowN.holds {w : World} {g cap : Nat} {ns : List Nd} (h : RowN w g cap ns) (d : Array VN) (hd : d.toList.map (·.1) = ns) : HoldsK encV 7 w g 0 d := by
  intro t ht
  rw [size_flatK] at ht
  have hi : t / 7 < d.size := Nat.div_lt_of_lt_mul (by omega)
  rw [Nat.zero_add, get_flatK encV 7 d t ht]
  have hx : ns[t / 7]? = some (d[t / 7]!).1 := by
    rw [← hd, List.getElem?_map, Array.getElem?_toList, getElem!_pos d (t / 7) hi, Array.getElem?_eq_getElem hi]; rfl
  have hc := h.cell (t / 7) (t % 7) _ hx (Nat.mod_lt _ (by omega))
  rw [show t / 7 * 7 + t % 7 = t by omega] at hc
  refine ⟨?_, h.frozen t⟩
  rw [hc]
  show (encN (d[t / 7]!).1)[t % 7]? = some ((encN (d[t / 7]!).1)[t % 7]!)
  have hl : t % 7 < (encN (d[t / 7]!).1).length := by rw [encN_length]; omega
  rw [getElem!_pos (encN (d[t / 7]!).1) (t % 7) hl, List.getElem?_eq_getElem hl]
end Go.Proofs.YtiloadafnalhpaaDoor
namespace Go.Proofs.YtiloadafnalhpaaDoor
open Go.RowKit Go.Proofs.YtiloadafnalhpaaDoorW.PrintWords Go.Proofs.YtiloadafnalhpaaDoorW.PrintLast Go.Proofs.YtiloadafnalhpaaDoorW.PrintMore
open Go.Proofs.YtiloadafnalhpaaDoor.PA Go.Shelf Go.Sort
set_option linter.unusedVariables false
set_option linter.unusedSimpArgs false

theorem flatK_flatN (d : Array VN) : (flatK encV 7 d).toList = flatN (d.toList.map (·.1)) := by
  apply List.ext_getElem?
  intro t
  rw [Array.getElem?_toList]
  by_cases ht : t < d.size * 7
  · have hi : t / 7 < d.size := Nat.div_lt_of_lt_mul (by omega)
    have hx : (d.toList.map (·.1))[t / 7]? = some (d[t / 7]!).1 := by
      rw [List.getElem?_map, Array.getElem?_toList, getElem!_pos d (t / 7) hi, Array.getElem?_eq_getElem hi]; rfl
    have h1 := flatN_get _ (t / 7) (t % 7) _ hx (Nat.mod_lt _ (by omega))
    rw [show t / 7 * 7 + t % 7 = t by omega] at h1
    have hs : t < (flatK encV 7 d).size := by rw [size_flatK]; exact ht
    rw [h1, Array.getElem?_eq_getElem hs]
    have h2 := get_flatK encV 7 d t ht
    rw [getElem!_pos _ t hs] at h2
    rw [h2]
    have hl : t % 7 < (encN (d[t / 7]!).1).length := by rw [encN_length]; omega
    show some ((encN (d[t / 7]!).1)[t % 7]!) = _
    rw [getElem!_pos (encN (d[t / 7]!).1) (t % 7) hl, List.getElem?_eq_getElem hl]
  · rw [Array.getElem?_eq_none (by rw [size_flatK]; omega), List.getElem?_eq_none (by rw [flatN_length]; simp; omega)]

theorem sorted_row {w : World} {g cap m : Nat} {ns : List Nd} {d' : Array VN} {os : Array Obj} (h : RowN w g cap ns) (hl : d'.size = ns.length) :
    RowN (sortWorldK encV 7 w g 0 m d' os) g cap (d'.toList.map (·.1)) ∧ w.grownBy (sortWorldK encV 7 w g 0 m d' os) (some g) := by
  obtain ⟨cur, hh, hs, hn, hm, ht⟩ := h
  have hg : g < w.heap.size := (Array.getElem?_eq_some_iff.1 hh).1
  have hheap : (sortWorldK encV 7 w g 0 m d' os).heap = w.heap.modify g (onCells (putCells id 0 (flatK encV 7 d'))) ++ os := rfl
  have hblk : (sortWorldK encV 7 w g 0 m d' os).heap[g]? = some (.cells (putCells id 0 (flatK encV 7 d') cur) 33 (0, 0)) := by
    rw [hheap, Array.getElem?_append_left (by simpa using hg), Array.getElem?_modify, if_pos rfl, hh]; rfl
  refine ⟨⟨_, hblk, ?_, ?_, hm, ?_⟩, rfl, rfl, rfl, ?_, ?_⟩
  · simp [putCells, hs]
  · simp; omega
  · rw [← flatK_flatN]
    apply List.ext_getElem?
    intro t
    rw [List.getElem?_take, Array.getElem?_toList, Array.getElem?_toList]
    have hsz : (flatK encV 7 d').size = d'.size * 7 := size_flatK _ _ _
    by_cases hlt : t < d'.size * 7
    · have hf : t < (flatK encV 7 d').size := by rw [hsz]; exact hlt
      rw [if_pos (by simpa using hlt), Array.getElem?_eq_getElem hf]
      have hc : t < (putCells id 0 (flatK encV 7 d') cur).size := by simp [putCells, hs]; omega
      rw [Array.getElem?_eq_getElem hc]
      have hk : (0 : Nat) ≤ t ∧ t < 0 + (flatK encV 7 d').size := ⟨Nat.zero_le _, by rw [hsz]; omega⟩
      simp only [putCells, Array.getElem_mapIdx, if_pos hk, id, Nat.sub_zero]
      rw [getElem!_pos _ t hf]
    · rw [if_neg (by simpa using hlt), Array.getElem?_eq_none (by rw [hsz]; omega)]
  · rw [hheap]; simp
  · intro k hk hne
    rw [hheap, Array.getElem?_append_left (by simpa using hk), Array.getElem?_modify, if_neg (fun e => hne (congrArg some e.symm))]

/-- In the order of the paths. -/
def Sorted (l : List Nd) : Prop := l.Pairwise fun x y => ordL (pth x) (pth y) ≤ 0
abbrev okPath (n : Nd) : Prop := noNul (pth n) ∧ (pth n).length ≤ 255

theorem enters_cl : ∀ args w, (callFunc 11 args).run Tryd.prog w = .ok (.enter 11 args) w := enters_of Tryd.func11 (by kernel_rfl) rfl

theorem sort_calls {w : World} {g cap : Nat} {ns : List Nd} (h : RowN w g cap ns) (hok : ∀ n ∈ ns, okPath n) (hb : ns.length ≤ 1000000) :
    Calls Tryd.prog 10 #[.slice (some ⟨g, 0, none⟩) ns.length cap, .func (.func 11) #[] #[]] w fun e w' =>
      e = .returned (.tuple #[]) ∧ ∃ s : List Nd, s.Perm ns ∧ Sorted s ∧ RowN w' g cap s ∧ w.grownBy w' (some g) := by
  obtain ⟨d, hd⟩ : ∃ d : Array VN, d.toList.map (·.1) = ns := by
    refine ⟨(ns.attach.map fun x => (⟨x.1, hok x.1 x.2⟩ : VN)).toArray, ?_⟩
    show (ns.attach.map fun x => (⟨x.1, hok x.1 x.2⟩ : VN)).map (·.1) = ns
    rw [List.map_map]
    exact List.attach_map_subtype_val ns
  have hsz : d.size = ns.length := by rw [← hd]; simp
  have hcon := AnyQ.slices_SortFunc Tryd.sortL 7 Tryd.isAgg33 Tryd.sizeOf33 encV (fun _ => rfl) (fun x v hv => encN_one x.1 v hv) cmpV swoV 11 #[] g 0 cap d w enters_cl (cmpLays g 0 d.size w) (h.holds d hd) h.lt (by omega)
  change Calls Tryd.prog 10 _ _ _ at hcon
  rw [hsz] at hcon
  refine hcon.mono ?_
  rintro e w' ⟨rfl, d', n, os, hp, hso, rfl⟩
  have hp1 : d'.size = ns.length := hp.1.trans hsz
  have hperm : d'.toList.Perm d.toList := by
    have := hp.2.2
    rw [← hsz] at this
    have h2 : (d'.extract 0 d.size).toList = d'.toList := by simp [← hp.1]
    rw [hsz, ← hsz, h2] at this
    simpa using this
  have hr := sorted_row (m := n) (d' := d') (os := os) h hp1
  refine ⟨rfl, d'.toList.map (·.1), ?_, ?_, hr.1, hr.2⟩
  · rw [← hd]; exact hperm.map _
  · unfold Sorted
    rw [List.pairwise_map, List.pairwise_iff_getElem]
    intro i j hi hj hij
    have hjs : j < d'.size := by simpa using hj
    have his : i < d'.size := by simpa using hi
    have := hso i j (Nat.zero_le _) hij (by omega)
    rw [nlt_iff, getElem!_pos d' i his, getElem!_pos d' j hjs, ordL_anti] at this
    simp only [Array.getElem_toList]
    omega
end Go.Proofs.YtiloadafnalhpaaDoor
namespace Go.Proofs.YtiloadafnalhpaaDoor
open Go.RowKit Go.Proofs.YtiloadafnalhpaaDoorW.PrintWords Go.Proofs.YtiloadafnalhpaaDoorW.PrintLast Go.Proofs.YtiloadafnalhpaaDoorW.PrintMore
open Go.Proofs.YtiloadafnalhpaaDoor.PA Go.Shelf Go.Sort Go.Maps Go.ChangeMaps Go.WideMaps
set_option linter.unusedVariables false
set_option linter.unusedSimpArgs false

theorem kStr : Keyed Tryd.prog 9 := string_keyed Tryd.underlying9
theorem kInt : Keyed Tryd.prog 3 := int_keyed Tryd.underlying3
theorem zeroInt (w : World) : (zeroValue 3).run Tryd.prog w = .ok (.int .i64 0) w := by kernel_rfl

/-- Block b is a map (keys of type K) of the call's own, of at most n entries: at each key it reads as f. -/
def MapI (w : World) (K : TypeId) (b n : Nat) (f : Lit → Int) : Prop :=
  ∃ D : DataW Unit, w.ownsMap Tryd.prog K (plainElem Tryd.prog 3) b n D ∧ IsMap D ∧ ∀ k, WideAt.IsKeyLit k → D.atKey k (.lit (.int .i64 0)) = .lit (.int .i64 (f k))

section
variable {w w' : World} {K : TypeId} {b n : Nat} {f : Lit → Int}
theorem MapI.made (w : World) (K : TypeId) : MapI (w.alloc (.map #[] 0)) K w.heap.size 0 (fun _ => 0) :=
  ⟨.map [], World.ownsMap_made _ _ _ _, isMap_empty, fun k _ => rfl⟩
theorem MapI.lt (h : MapI w K b n f) : b < w.heap.size := by obtain ⟨D, ho, _⟩ := h; exact ho.lt
theorem MapI.block (h : MapI w K b n f) (hb : w'.heap[b]? = w.heap[b]?) : MapI w' K b n f := by
  obtain ⟨D, ⟨es, clock, hh, F⟩, hD⟩ := h
  exact ⟨D, ⟨es, clock, hb.trans hh, F⟩, hD⟩
theorem MapI.below (h : MapI w K b n f) (hb : Below w.heap.size w w') : MapI w' K b n f := h.block (hb.block b h.lt)
theorem MapI.grown (h : MapI w K b n f) {row : Option Nat} (hg : w.grownBy w' row) (hne : some b ≠ row) : MapI w' K b n f := h.block (hg.block b h.lt hne)
theorem MapI.drewN (h : MapI w K b n f) (q : Nat) : MapI (w.drewN q) K b n f := h.block rfl
theorem MapI.mono (h : MapI w K b n f) {n' : Nat} (hn : n ≤ n') : MapI w K b n' f := by
  obtain ⟨D, ho, r⟩ := h; exact ⟨D, ho.mono hn, r⟩
theorem MapI.congr (h : MapI w K b n f) {g : Lit → Int} (e : ∀ k, WideAt.IsKeyLit k → f k = g k) : MapI w K b n g := by
  obtain ⟨D, ho, hi, hD⟩ := h
  exact ⟨D, ho, hi, fun k hk => by rw [hD k hk, e k hk]⟩
theorem MapI.look (h : MapI w K b n f) {t : TypeId} (KK : Keyed Tryd.prog K) (ht : Tryd.prog.underlying t = some (.map K 3)) {key : Value} {kl : Lit} (hkey : keyOf Tryd.prog K key = some kl) (hk : WideAt.IsKeyLit kl) :
    (Instr.lookup t (.map (some b)) key false).run Tryd.prog w = .ok (.int .i64 (f kl)) w := by
  obtain ⟨D, ho, hi, hD⟩ := h
  obtain ⟨c, hrun, hat, _⟩ := ho.lookup_int KK ht Tryd.underlying3 (zeroInt w) hkey
  rw [hD kl hk] at hat
  simp only [DataW.lit.injEq, Lit.int.injEq, true_and] at hat
  rw [hat]; exact hrun
open Classical in
theorem MapI.put (h : MapI w K b n f) {t : TypeId} (KK : Keyed Tryd.prog K) (ht : Tryd.prog.underlying t = some (.map K 3)) (hn : n < maxLen) {key : Value} {kl : Lit} (hkey : keyOf Tryd.prog K key = some kl) (hk : WideAt.IsKeyLit kl) (c : Int) (hc : (Lit.int .i64 c).wf = true) :
    ∃ w', (Instr.mapUpdate t (.map (some b)) key (.int .i64 c)).run Tryd.prog w = .ok () w' ∧ MapI w' K b (n + 1) (fun k => if k = kl then c else f k) ∧ w.grownBy w' (some b) := by
  obtain ⟨D, ho, hi, hD⟩ := h
  obtain ⟨w', hrun, ho', hg⟩ := ho.update KK ht hn hkey (plainElem_int (H := Unit) Tryd.underlying3 hc)
  refine ⟨w', hrun, ⟨_, ho', hi.put _ _, fun k hk' => ?_⟩, hg⟩
  by_cases e : k = kl
  · subst e; simp only [if_true]; rw [atKey_put_same hi hk]
  · simp only [if_neg e]; rw [atKey_put_other e, hD k hk']
end
theorem keyStr (s : ByteArray) (hs : s.size ≤ 9223372036854775807) : keyOf Tryd.prog 9 (.string s) = some (.string s.data.toList) := keyOf_string_mk Tryd.underlying9 (by unfold maxLen; omega)
theorem keyInt (c : Int) (hc : (Lit.int .i64 c).wf = true) : keyOf Tryd.prog 3 (.int .i64 c) = some (.int .i64 c) := keyOf_int_mk Tryd.underlying3 hc

/-- The directory of a path. -/
def aboveB (s : ByteArray) : ByteArray := if Lib.lastIndexByte s 47 = 0 then ⟨#[47]⟩ else s.extract 0 (Lib.lastIndexByte s 47).toNat

set_option maxHeartbeats 4000000 in
set_option maxRecDepth 100000 in
theorem above_calls (s : ByteArray) (w : World) (hs : s.size < 4611686018427387904) (h0 : 0 ≤ Lib.lastIndexByte s 47) :
    Calls Tryd.prog 23 #[.string s] w fun e w' => e = .returned (.string (aboveB s)) ∧ w' = w := by
  have hcon := fun W => Tryd.strings_LastIndexByte s 47 hs W
  have hsp : Lib.lastIndexByte s 47 < s.size := by
    rcases Lib.lastIndexByte_spec s 47 with ⟨e, _⟩ | ⟨i, hi, e, _⟩ <;> omega
  unfold aboveB
  generalize Lib.lastIndexByte s 47 = r at hcon h0 hsp ⊢
  by_cases hz : r = 0
  · subst hz
    rw [if_pos rfl]
    clear h0 hsp
    go_enter Tryd.func23, Tryd.ntmps23
    go_wp2_with (go_at_call 45; refine (hcon _).mono ?_; rintro e w' ⟨rfl, rfl⟩)
    go_ret
    exact ⟨rfl, rfl⟩
  · rw [if_neg hz]
    have hz' : (r == 0) = false := beq_eq_false_iff_ne.mpr hz
    have hle : r ≤ s.size := by omega
    clear hz hsp
    go_enter Tryd.func23, Tryd.ntmps23
    go_wp2_with (go_at_call 45; refine (hcon _).mono ?_; rintro e w' ⟨rfl, rfl⟩)
    go_ret
    exact ⟨rfl, rfl⟩
end Go.Proofs.YtiloadafnalhpaaDoor
