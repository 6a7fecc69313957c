/-
  The walks of strings.Builder inside archive's writer.
  A string is appended to a row of bytes of the call's own: where the row lies then.
  The walk of WriteString inside archive's writer.
  The walks of Len and String inside archive's writer.
-/
import Derived.Test.YtiloadafnalhpaaDoorJ10
import Derived.Lib.Builder
import Derived.Laws.Externs
import Derived.Lib.AppendStr
import Derived.Shelf.Strings.Builder1
namespace Go.Proofs.YtiloadafnalhpaaDoor
open Go.RowKit Go.Proofs.YtiloadafnalhpaaDoorW.PrintWords Go.Proofs.YtiloadafnalhpaaDoorW.PrintLast Go.Proofs.YtiloadafnalhpaaDoorW.PrintMore
open Go.Proofs.YtiloadafnalhpaaDoor.PA
set_option linter.unusedVariables false
set_option linter.unusedSimpArgs false

/-- Block b is a writer: its builder's two cells; what was laid lies in a row of its own. -/
def Wri (w : World) (b : Nat) (l : List UInt8) : Prop :=
  ∃ p v, w.heap[b]? = some (.cells #[.pointer p, v] 59 (0, 0)) ∧ (p = none ∨ p = some ⟨b, 0, none⟩) ∧ w.ownsRow (b + 1) 5 1 v l.length (l.map fun x => Value.int .u8 (x.toNat : Int))

set_option maxHeartbeats 16000000 in
set_option maxRecDepth 100000 in
theorem cc_calls (b : Nat) (v : Value) (p : Option Addr) (w : World) (hp : p = none ∨ p = some ⟨b, 0, none⟩) (hb : w.heap[b]? = some (.cells #[.pointer p, v] 59 (0, 0))) :
    Calls Tryd.prog 48 #[.pointer (some ⟨b, 0, none⟩)] w fun e w' => e = .returned (.tuple #[]) ∧ w'.heap[b]? = some (.cells #[.pointer (some ⟨b, 0, none⟩), v] 59 (0, 0)) ∧ (∀ k, k ≠ b → w'.heap[k]? = w.heap[k]?) ∧ Below b w w' := by
  have hbl : b < w.heap.size := (Array.getElem?_eq_some_iff.1 hb).1
  have hc0 : w.cell? ⟨b, 0, none⟩ = some (.pointer p) := (blk_cell hb 0).trans rfl
  have hf0 : w.frozen? ⟨b, 0, none⟩ = false := blk_frozen hb 0
  have HB := Aside0.mk hb
  clear hb
  go_enter Tryd.func48, Tryd.ntmps48
  obtain ⟨j57, hj57, hjs⟩ : ∃ j, Tryd.prog.info? 57 = some j ∧ j.size = 2 := by
    have h : (Tryd.prog.info? 57).map (·.size) = some 2 := by kernel_rfl
    exact Option.map_eq_some_iff.1 h
  have hlies : liesAt Tryd.prog Tryd.prog.depth 59 (2 / Tryd.prog.cellsOf 59) 0 57 1 = true := by kernel_rfl
  have hsh : w.shape? b = some (59, 2) := by unfold World.shape?; rw [HB.out]; rfl
  rcases hp with rfl | rfl
  · go_wp2
    rw [Lib.run_to_unsafe w ⟨b, 0, none⟩ Tryd.underlying54 Tryd.underlying104 hj57 (by rw [hjs]; decide) hsh (Nat.zero_lt_succ 1)]
    simp only [Result.andThen]
    rw [Oper.upon_value]
    go_wp2
    rw [run_callFunc_extern Tryd.func68 (by kernel_rfl) (by kernel_rfl) (by kernel_rfl) (e := Extern.AbiNoEscape.same) (by kernel_rfl)]
    rw [Lib.run_noEscape]
    simp only [Result.andThen]
    rw [Oper.upon_value]
    go_wp2
    rw [Lib.run_from_unsafe w ⟨b, 0, none⟩ Tryd.underlying104 Tryd.underlying54 hj57 hsh hlies]
    simp only [Result.andThen]
    rw [Oper.upon_value]
    go_wp2
    go_end0
    exact ⟨rfl, (blk_set HB.out 0 _).trans rfl, fun k hk => Below.heap_setCell _ _ _ _ hk, (Below.refl b w).setCell (p := ⟨b, 0, none⟩) (Nat.le_refl _) _⟩
  · go_wp2
    rw [Lib.run_neq_ptr_same w _ Tryd.underlying54 hj57]
    go_wp2
    go_end0
    exact ⟨rfl, HB.out, fun _ _ => rfl, Below.refl _ _⟩
end Go.Proofs.YtiloadafnalhpaaDoor
namespace Go.Proofs.YtiloadafnalhpaaDoor
open Go.RowKit Go.Lib
set_option linter.unusedVariables false
set_option linter.unusedSimpArgs false

section
variable {P : Program} (w : World)
theorem run_append_own_string_at (base : Nat) (t u ty e : TypeId) (i : TypeInfo) (ht : P.underlying t = some (.slice e)) (hu : P.underlying u = some .string) (hi : P.info? e = some i) (hz : i.zero = some (.int .u8 0))
    (hsize : i.size = 1) (hby : i.bytes = 1)
    (v : Value) (n : Nat) (xs : List Value) (hown : w.ownsRow base e 1 v n xs) (s : ByteArray)
    (h63 : n + s.size ≤ maxLen) (hbytes : n + s.size ≤ 140737488355328) (hbase : base ≤ w.heap.size) :
    ∃ v' w', (Builtin.append_ #[t, u] ty #[v, .string s]).run P w = .ok v' w' ∧ w'.ownsRow base e 1 v' (n + s.size) (xs ++ strCells s) ∧ w.grownBy w' v.ownBlock ∧
      (v'.ownBlock = v.ownBlock ∨ v'.ownBlock = some w.heap.size) := by
  obtain ⟨v', w', hr, h1, h2, h3⟩ := run_append_own_string (P := P) w base t u ty e i ht hu hi hz hsize hby v n xs hown s h63 hbytes hbase
  refine ⟨v', w', hr, h1, h2, ?_⟩
  have hxl : xs.length = n := by simpa using hown.1
  rcases hown.2 with ⟨rfl, rfl⟩ | ⟨g, cap, cur, rfl, hbg, hg, hnc, hcm, hcs, htake⟩
  · by_cases hm : s.size = 0
    · exact .inl (by rw [h3.2 ⟨rfl, hm⟩])
    · have hr2 := run_append_nil_string (P := P) w t u ty e i (.int .u8 0) ht hu hi hz s (by omega) (by omega) (by rw [hby]; omega)
      rw [hr2] at hr
      injection hr with e1 e2
      exact .inr (by rw [← e1]; rfl)
  · by_cases hroom : n + s.size ≤ cap
    · have hcs' : cur.size = cap := by simpa using hcs
      have hr2 := run_append_room_string (P := P) w t u ty e i ht hu hi hsize g n cap cur hg s hroom (by omega)
      rw [hr2] at hr
      injection hr with e1 e2
      exact .inl (by rw [← e1]; rfl)
    · have holds : ∀ j u, xs[j]? = some u → w.cell? ((⟨g, 0, none⟩ : Addr).add j) = some u := hown.cells (g := g) rfl
      have hr2 := run_append_grow_string (P := P) w t u ty e i (.int .u8 0) ht hu hi hz ⟨g, 0, none⟩ n cap xs (by rw [hsize]; simpa using hxl) holds s (by omega) (by unfold maxLen at h63; omega) (by rw [hby]; exact growslice_fits (by omega) (by omega))
      rw [hr2] at hr
      injection hr with e1 e2
      exact .inr (by rw [← e1]; rfl)
theorem wpList_append_string_at {ops : Array Oper} {rest : List Oper} {o : Oper} {a : Act} {Q : Exit → Act → World → Prop} (hgd : o.guard = none) (sl x : Operand) (t u : TypeId)
    (ho : o.op = .call { callee := .builtin .append, args := #[sl, x], argTypes := #[t, u] })
    (base : Nat) (e : TypeId) (i : TypeInfo) (ht : P.underlying t = some (.slice e)) (hu : P.underlying u = some .string) (hi : P.info? e = some i) (hz : i.zero = some (.int .u8 0))
    (hsize : i.size = 1) (hby : i.bytes = 1)
    (v : Value) (n : Nat) (xs : List Value) (hs : a.eval sl = v) (hown : w.ownsRow base e 1 v n xs) (s : ByteArray) (hx : a.eval x = .string s)
    (h63 : n + s.size ≤ maxLen) (hbytes : n + s.size ≤ 140737488355328) (hbase : base ≤ w.heap.size)
    (h : ∀ v' w', w'.ownsRow base e 1 v' (n + s.size) (xs ++ strCells s) → w.grownBy w' v.ownBlock → (v'.ownBlock = v.ownBlock ∨ v'.ownBlock = some w.heap.size) → wpList P ops Q rest (a.put o.dst v') w') : wpList P ops Q (o :: rest) a w := by
  refine wpList_plain hgd fun K hK => ?_
  obtain ⟨v', w', hr, h2, h3, h4⟩ := run_append_own_string_at (P := P) w base t u o.type e i ht hu hi hz hsize hby v n xs hown s h63 hbytes hbase
  unfold Oper.wp execOp
  simp only [ho, resolve, invoke, builtin, Sem.run_bind, Sem.run_pure, Result.andThen_ok, List.map_toArray, List.map_cons, List.map_nil, hs, hx, hr]
  exact hK _ _ (h v' w' h2 h3 h4)
end
end Go.Proofs.YtiloadafnalhpaaDoor
namespace Go.Proofs.YtiloadafnalhpaaDoor
open Go.RowKit Go.Proofs.YtiloadafnalhpaaDoorW.PrintWords Go.Proofs.YtiloadafnalhpaaDoorW.PrintLast Go.Proofs.YtiloadafnalhpaaDoorW.PrintMore
open Go.Proofs.YtiloadafnalhpaaDoor.PA
set_option linter.unusedVariables false
set_option linter.unusedSimpArgs false

/-- Of the old blocks the writer's own and its row's alone may have turned. -/
def Fr (b : Nat) (w w' : World) : Prop := ∃ p v p' v', w.heap[b]? = some (.cells #[p, v] 59 (0, 0)) ∧ w'.heap[b]? = some (.cells #[p', v'] 59 (0, 0)) ∧
  (v'.ownBlock = v.ownBlock ∨ ∃ g, v'.ownBlock = some g ∧ w.heap.size ≤ g) ∧ w.heap.size ≤ w'.heap.size ∧ ∀ k, k < w.heap.size → k ≠ b → v.ownBlock ≠ some k → w'.heap[k]? = w.heap[k]?
theorem Fr.trans {b : Nat} {w w1 w2 : World} (h1 : Fr b w w1) (h2 : Fr b w1 w2) : Fr b w w2 := by
  obtain ⟨p, v, p1, v1, a1, a2, a3, a4, a5⟩ := h1
  obtain ⟨q, u, q2, v2, c1, c2, c3, c4, c5⟩ := h2
  rw [a2] at c1
  injection c1 with c1
  injection c1 with c1 _ _
  have e : v1 = u := by injection c1 with c1; injection c1 with _ c1; injection c1 with c1 _
  subst e
  refine ⟨p, v, q2, v2, a1, c2, ?_, Nat.le_trans a4 c4, fun k hk hb ho => ?_⟩
  · rcases c3 with e | ⟨g, e, hg⟩
    · rcases a3 with e' | ⟨g, e', hg⟩
      · exact .inl (e.trans e')
      · exact .inr ⟨g, e.trans e', hg⟩
    · exact .inr ⟨g, e, by omega⟩
  · refine (c5 k (by omega) hb fun h => ?_).trans (a5 k hk hb ho)
    rcases a3 with e' | ⟨g, e', hg⟩
    · exact ho (e'.symm.trans h)
    · rw [e'] at h; injection h with h; omega
set_option maxHeartbeats 16000000 in
set_option maxRecDepth 100000 in
theorem ws_calls (b : Nat) (s : ByteArray) (l : List UInt8) (w : World) (h : Wri w b l) (hs : s.size ≤ 100000000) (hl : l.length ≤ 100000000) :
    Calls Tryd.prog 26 #[.pointer (some ⟨b, 0, none⟩), .string s] w fun e w' => (∃ ev, e = .returned (.tuple #[.int .i64 s.size, ev])) ∧ Wri w' b (l ++ s.data.toList) ∧ Below b w w' ∧ Fr b w w' := by
  obtain ⟨p, v, hb, hp, ho⟩ := h
  have HCC := Aside0.mk (cc_calls b v p w hp hb)
  have HO := Aside0.mk ho
  have HB0 := Aside0.mk hb
  have hbl : b < w.heap.size := (Array.getElem?_eq_some_iff.1 hb).1
  clear ho hp hb
  go_enter Tryd.func26, Tryd.ntmps26
  obtain ⟨i0, hi, hi0, hi1, hi2⟩ := info_parts infoB
  go_wp2_with (first
    | (go_at_call 48; refine HCC.out.mono ?_; rintro e w1 ⟨rfl, hb1, hk1, he1⟩; have ho1 := own_other HO.out (fun k hk => hk1 k (by omega)); have HB1 := Aside0.mk hb1; have HO1 := Aside0.mk ho1; have HE1 := Aside0.mk he1; have hsz1 : b + 1 ≤ w1.heap.size := (Array.getElem?_eq_some_iff.1 hb1).1; have hc0 : w1.cell? ⟨b, 1, none⟩ = some v := (blk_cell hb1 1).trans rfl; have hf0 : w1.frozen? ⟨b, 1, none⟩ = false := blk_frozen hb1 1; have HK1 := Aside0.mk hk1; clear hb1 hk1 he1 ho1)
    | (at_builtin; refine wpList_append_string_at _ rfl (.tmp 12) (.tmp 13) 55 9 rfl (b + 1) 5 i0 Tryd.underlying55 Tryd.underlying9 hi hi0 hi1 hi2 _ _ _ rfl HO1.out s rfl (by unfold maxLen; omega) (by omega) hsz1 ?_; intro v' w2 hown' hgrow hlies; obtain ⟨ao, n', cap, rfl⟩ : ∃ ao n' cap, v' = .slice ao n' cap := (by
          rcases hown'.2 with ⟨hv, _⟩ | ⟨g, cap, cur, hv, _⟩
          · exact ⟨_, _, _, hv⟩
          · exact ⟨_, _, _, hv⟩); have ag : v.ownBlock ≠ some b := (fun e => by have := own_base HO1.out b e; omega); have hb2 : w2.heap[b]? = some (.cells #[.pointer (some ⟨b, 0, none⟩), v] 59 (0, 0)) := (hgrow.block b (by omega) (Ne.symm ag)).trans HB1.out; have HB2 := Aside0.mk hb2; have HO2 := Aside0.mk hown'; have HL2 := Aside0.mk hlies; have HG2 := Aside0.mk hgrow; have HE2 : Aside0 (Below b w w2) := ⟨HE1.out.grown hgrow (by omega) (fun k hk => by have := own_base HO1.out k hk; omega)⟩; have hc2 : w2.cell? ⟨b, 1, none⟩ = some v := (blk_cell hb2 1).trans rfl; have hf2 : w2.frozen? ⟨b, 1, none⟩ = false := blk_frozen hb2 1; clear hb2 hown' hgrow hlies ag))
  go_ret2
  refine ⟨⟨_, rfl⟩, ⟨_, _, (blk_set HB2.out 1 _).trans rfl, .inr rfl, ?_⟩, HE2.out.setCell (p := ⟨b, 1, none⟩) (Nat.le_refl _) _, _, _, _, _, HB0.out, (blk_set HB2.out 1 _).trans rfl, ?_, ?_, fun k hk hkb ho => ?_⟩
  case refine_2 =>
    rcases HL2.out with h | h
    · exact .inl h
    · exact .inr ⟨_, h, HE1.out.size⟩
  case refine_3 => have := HE2.out.size; simpa using this
  case refine_4 =>
    have e1 := HK1.out k hkb
    have e2 := HG2.out.block k (by have := HE1.out.size; omega) (Ne.symm ho)
    exact (Below.heap_setCell w2 ⟨b, 1, none⟩ (.slice ao n' cap) k hkb).trans (e2.trans e1)
  have h := own_other HO2.out (fun k hk => Below.heap_setCell w2 ⟨b, 1, none⟩ (.slice ao n' cap) k (by show k ≠ b; omega))
  rw [List.length_append, toList_size, List.map_append]
  exact h
end Go.Proofs.YtiloadafnalhpaaDoor
namespace Go.Proofs.YtiloadafnalhpaaDoor
open Go.RowKit Go.Proofs.YtiloadafnalhpaaDoorW.PrintWords Go.Proofs.YtiloadafnalhpaaDoorW.PrintLast Go.Proofs.YtiloadafnalhpaaDoorW.PrintMore
open Go.Proofs.YtiloadafnalhpaaDoor.PA
set_option linter.unusedVariables false
set_option linter.unusedSimpArgs false

theorem Wri.form {w : World} {b : Nat} {l : List UInt8} (h : Wri w b l) : ∃ p A n cap, w.heap[b]? = some (.cells #[.pointer p, .slice A n cap] 59 (0, 0)) ∧ n = l.length ∧ (p = none ∨ p = some ⟨b, 0, none⟩) ∧ w.ownsRow (b + 1) 5 1 (.slice A n cap) l.length (l.map fun x => Value.int .u8 (x.toNat : Int)) := by
  obtain ⟨p, v, hb, hp, ho⟩ := h
  rcases ho.2 with ⟨rfl, e⟩ | ⟨g, cap, cur, rfl, r⟩
  · exact ⟨p, none, 0, 0, hb, e.symm, hp, ho⟩
  · exact ⟨p, _, _, cap, hb, rfl, hp, ho⟩
set_option maxHeartbeats 16000000 in
set_option maxRecDepth 100000 in
theorem len_calls (b : Nat) (l : List UInt8) (w : World) (h : Wri w b l) :
    Calls Tryd.prog 29 #[.pointer (some ⟨b, 0, none⟩)] w fun e w' => e = .returned (.int .i64 l.length) ∧ w' = w := by
  obtain ⟨p, A, n, cap, hb, rfl, hp, ho⟩ := h.form
  have c1 : w.cell? ⟨b, 1, none⟩ = some (.slice A l.length cap) := (blk_cell hb 1).trans rfl
  clear h hb hp ho
  go_enter Tryd.func29, Tryd.ntmps29
  go_wp2
  go_ret
  exact ⟨rfl, rfl⟩
set_option maxHeartbeats 16000000 in
set_option maxRecDepth 100000 in
theorem str_calls (b : Nat) (l : List UInt8) (w : World) (h : Wri w b l) (h0 : l ≠ []) :
    Calls Tryd.prog 30 #[.pointer (some ⟨b, 0, none⟩)] w fun e w' => e = .returned (.string ⟨l.toArray⟩) ∧ Below b w w' := by
  obtain ⟨p, v, hbk, hp, hown⟩ := h
  have hl0 : l.length ≠ 0 := by simpa using h0
  obtain ⟨g, cap, cur, rfl, hbg, hg, hnc, hcm, hcs, htake⟩ : ∃ g cap cur, v = .slice (some ⟨g, 0, none⟩) l.length cap ∧ b + 1 ≤ g ∧ w.heap[g]? = some (.cells cur 5 (0, 0)) ∧ l.length ≤ cap ∧ cap ≤ maxLen ∧ cur.size = cap * 1 ∧ cur.toList.take (l.length * 1) = l.map fun x => Value.int .u8 (x.toNat : Int) := by
    rcases hown.2 with ⟨_, hz⟩ | ⟨g, cap, cur, hv, r⟩
    · exact absurd hz hl0
    · exact ⟨g, cap, cur, hv, r⟩
  have c1 : w.drew.cell? ⟨b, 1, none⟩ = some (.slice (some ⟨g, 0, none⟩) l.length cap) := by
    have : w.drew.heap[b]? = some (.cells #[.pointer p, .slice (some ⟨g, 0, none⟩) l.length cap] 59 (0, 0)) := hbk
    exact (blk_cell this 1).trans rfl
  have hSD : (Builtin.unsafeSliceData_ #[55] 85 #[.slice (some ⟨g, 0, none⟩) l.length cap]).run Tryd.prog w.drew = .ok (.pointer (some ⟨g, 0, none⟩)) w.drew :=
    Lib.run_unsafeSliceData_row _ _ _ _ _ _ (by omega)
  have hcb : Tryd.prog.cellsOf 5 = 1 := by kernel_rfl
  have hUS : (Builtin.unsafeString_ #[85, 3] 9 #[.pointer (some ⟨g, 0, none⟩), .int .i64 l.length]).run Tryd.prog w.drew = .ok (.string ⟨l.toArray⟩) (w.drew.freeze ⟨g, 0, none⟩ l.length) := by
    refine Lib.run_unsafeString_row w.drew 85 3 9 5 Tryd.underlying85 hcb g cur.size (by have hg' : w.drew.heap[g]? = some (.cells cur 5 (0, 0)) := hg; simp [World.shape?, hg']) l h0 (by omega) (by unfold maxLen at hcm; omega) ?_
    intro j x hx
    have := hown.cells (g := g) rfl j (.int .u8 x.toNat) (by simp [hx])
    exact this
  clear hbk hown hg htake hcs
  go_enter Tryd.func30, Tryd.ntmps30
  go_wp2
  go_region
  all_goals (go_wp2; go_ret; exact ⟨rfl, Lib.below_freeze (Below.drew (Below.refl b w)) (p := ⟨g, 0, none⟩) (by show b ≤ g; omega) _⟩)
end Go.Proofs.YtiloadafnalhpaaDoor
