/-
  The walks of archive's reader: need, get, bytes, text, where the bytes are there.
  The walk of archive's reader.node at a directory.
  The deferred closure of archive.read, where nothing panicked.
  The walk of few: at most 40 nodes, at most 60000 bytes.
-/
import Derived.Test.YtiloadafnalhpaaDoorJ10
import Derived.Test.YtiloadafnalhpaaDoorJ9
import Derived.Defers
import Derived.Recover
namespace Go.Proofs.YtiloadafnalhpaaDoor
open Go.RowKit Go.Proofs.YtiloadafnalhpaaDoorW.PrintWords Go.Proofs.YtiloadafnalhpaaDoorW.PrintLast Go.Proofs.YtiloadafnalhpaaDoorW.PrintMore
open Go.Proofs.YtiloadafnalhpaaDoor.PA
set_option linter.unusedVariables false
set_option linter.unusedSimpArgs false

theorem only_drewN {a w : World} {row : Option Nat} (h : a.grownBy w row) (n : Nat) : a.grownBy (w.drewN n) row := ⟨h.os, h.tape, h.output, h.size, h.block⟩
theorem only_alloc {a w : World} {row : Option Nat} (h : a.grownBy w row) (o : Obj) : a.grownBy (w.alloc o) row :=
  ⟨h.os, h.tape, h.output, Nat.le_trans h.size (by simp), fun i hi hne => (Below.heap_alloc w o i (Nat.lt_of_lt_of_le hi h.size)).trans (h.block i hi hne)⟩
theorem only_setCell {a w : World} {g : Nat} (h : a.grownBy w (some g)) {p : Addr} (hp : p.block = g ∨ a.heap.size ≤ p.block) (u : Value) : a.grownBy (w.setCell p u) (some g) :=
  ⟨h.os, h.tape, h.output, by simpa [World.setCell] using h.size, fun i hi hne => (Below.heap_setCell w p u i (by
    rintro rfl
    rcases hp with hp | hp
    · exact hne (by rw [hp])
    · omega)).trans (h.block i hi hne)⟩
theorem only_of_below {a w : World} (h : Below a.heap.size a w) (row : Option Nat) : a.grownBy w row := ⟨h.os, h.tape, h.output, h.size, fun i hi _ => h.block i hi⟩
theorem only_trans {a b c : World} {row : Option Nat} (h : a.grownBy b row) (k : b.grownBy c row) : a.grownBy c row :=
  ⟨k.os.trans h.os, k.tape.trans h.tape, k.output.trans h.output, Nat.le_trans h.size k.size, fun i hi hne => (k.block i (Nat.lt_of_lt_of_le hi h.size) hne).trans (h.block i hi hne)⟩
/-- Block g is a reader of s at a place. -/
def Rdr (w : World) (g : Nat) (s : ByteArray) (at_ : Nat) : Prop := w.heap[g]? = some (.cells #[.string s, .int .i64 at_] 91 (0, 0))
theorem Rdr.c0 {w : World} {g : Nat} {s : ByteArray} {at_ : Nat} (h : Rdr w g s at_) : w.cell? ⟨g, 0, none⟩ = some (.string s) := (blk_cell h 0).trans rfl
theorem Rdr.c1 {w : World} {g : Nat} {s : ByteArray} {at_ : Nat} (h : Rdr w g s at_) : w.cell? ⟨g, 1, none⟩ = some (.int .i64 at_) := (blk_cell h 1).trans rfl
theorem Rdr.f1 {w : World} {g : Nat} {s : ByteArray} {at_ : Nat} (h : Rdr w g s at_) : w.frozen? ⟨g, 1, none⟩ = false := blk_frozen h 1
theorem Rdr.lt {w : World} {g : Nat} {s : ByteArray} {at_ : Nat} (h : Rdr w g s at_) : g < w.heap.size := blk_lt h
theorem Rdr.drewN {w : World} {g : Nat} {s : ByteArray} {at_ : Nat} (h : Rdr w g s at_) (n : Nat) : Rdr (w.drewN n) g s at_ := h
theorem Rdr.below {w w1 : World} {g : Nat} {s : ByteArray} {at_ : Nat} (h : Rdr w g s at_) (hb : Below w.heap.size w w1) : Rdr w1 g s at_ := blk_below h hb
theorem Rdr.move {w : World} {g : Nat} {s : ByteArray} {at_ : Nat} (h : Rdr w g s at_) (n : Nat) {z : Int} (hz : z = (n : Int)) : Rdr (w.setCell ⟨g, 1, none⟩ (.int .i64 z)) g s n := by
  subst hz
  exact (blk_set h 1 _).trans rfl

set_option maxHeartbeats 1000000 in
set_option maxRecDepth 100000 in
theorem rneed_calls (g n : Nat) (s : ByteArray) (at_ : Nat) (w : World) (h : Rdr w g s at_) (ha : at_ + n ≤ s.size) (hs : s.size ≤ 100000000) :
    Calls Tryd.prog 74 #[.pointer (some ⟨g, 0, none⟩), .int .i64 n] w fun e w' => e = .returned (.tuple #[]) ∧ ∃ k, w' = w.drewN k := by
  have c0 := h.c0
  have c1 := h.c1
  have hd : decide ((s.size : Int) - (at_ : Int) < (n : Int)) = false := decide_eq_false (by omega)
  have hsub : IntKind.i64.wrap ((s.size : Int) - (at_ : Int)) = (s.size : Int) - (at_ : Int) := IntWalk.i64_in _ (by omega)
  clear h
  go_enter Tryd.func74, Tryd.ntmps74
  go_wp2
  go_quiet (fail)
  go_wp2
  go_end0
  exact ⟨rfl, _, rfl⟩
set_option maxHeartbeats 1000000 in
set_option maxRecDepth 100000 in
theorem rbytes_calls (g n : Nat) (s : ByteArray) (at_ : Nat) (w : World) (h : Rdr w g s at_) (ha : at_ + n ≤ s.size) (hs : s.size ≤ 100000000) :
    Calls Tryd.prog 57 #[.pointer (some ⟨g, 0, none⟩), .int .i64 n] w fun e w' => e = .returned (.string (s.extract at_ (at_ + n))) ∧ Rdr w' g s (at_ + n) ∧ w.grownBy w' (some g) := by
  have c0 := h.c0
  have c1 := h.c1
  have f1 := h.f1
  have HN := Aside0.mk (rneed_calls g n s at_ w h ha hs)
  have HR := Aside0.mk h
  have hadd : IntKind.i64.wrap ((at_ : Int) + (n : Int)) = (at_ : Int) + (n : Int) := IntWalk.i64_in _ (by omega)
  have h0 : (0 : Int) ≤ (at_ : Int) + (n : Int) := by omega
  have h1 : (at_ : Int) + (n : Int) ≤ (s.size : Int) := by omega
  have h2 : (at_ : Int) ≤ (at_ : Int) + (n : Int) := by omega
  have h3 : ((at_ : Int) + (n : Int)).toNat = at_ + n := by omega
  clear h
  go_enter Tryd.func57, Tryd.ntmps57
  go_wp2_with (go_at_call 74; refine HN.out.mono ?_; rintro e w1 ⟨rfl, k, rfl⟩)
  go_quiet (fail)
  go_wp2
  go_ret
  refine ⟨rfl, (HR.out.drewN _).move (at_ + n) (by omega), only_setCell (only_drewN (World.grownBy.refl _ _) _) (.inl rfl) _⟩
set_option maxHeartbeats 1000000 in
set_option maxRecDepth 100000 in
theorem rget_calls (g wd : Nat) (s : ByteArray) (at_ : Nat) (w : World) (h : Rdr w g s at_) (hw1 : 1 ≤ wd) (hw6 : wd ≤ 6) (ha : at_ + wd ≤ s.size) (hs : s.size ≤ 100000000) :
    Calls Tryd.prog 59 #[.pointer (some ⟨g, 0, none⟩), .int .i64 wd] w fun e w' => e = .returned (.int .i64 (numAt s at_ wd)) ∧ Rdr w' g s (at_ + wd) ∧ w.grownBy w' (some g) := by
  have c0 := h.c0
  have c1 := h.c1
  have f1 := h.f1
  have HN := Aside0.mk (rneed_calls g wd s at_ w h ha hs)
  have HG := Aside0.mk (fun W => get_calls s at_ wd W hw1 hw6 ha hs)
  have HR := Aside0.mk h
  have hadd : IntKind.i64.wrap ((at_ : Int) + (wd : Int)) = (at_ : Int) + (wd : Int) := IntWalk.i64_in _ (by omega)
  clear h
  go_enter Tryd.func59, Tryd.ntmps59
  go_wp2_with (go_at_call 74; refine HN.out.mono ?_; rintro e w1 ⟨rfl, k, rfl⟩)
  go_region_with (go_at_call 75; refine (HG.out _).mono ?_; rintro e w2 ⟨rfl, hb⟩)
  all_goals
    have hR2 := Rdr.below (w := (w.drewN k).drew) (w1 := w2) HR.out hb
    have hO2 : w.grownBy w2 (some g) := only_trans (only_drewN (World.grownBy.refl w (some g)) (k + 1)) (only_of_below hb (some g))
    have HR2 := Aside0.mk hR2
    have HO2 := Aside0.mk hO2
    have d1 := hR2.c1
    have e1 := hR2.f1
    clear hR2 hO2 hb c0 c1 f1
    go_wp2
    go_ret
    exact ⟨rfl, HR2.out.move (at_ + wd) (by omega), only_setCell HO2.out (.inl rfl) _⟩
set_option maxHeartbeats 1000000 in
set_option maxRecDepth 100000 in
theorem rtext_calls (g : Nat) (s : ByteArray) (at_ : Nat) (w : World) (h : Rdr w g s at_) (ha : at_ + 1 + numAt s at_ 1 ≤ s.size) (hs : s.size ≤ 100000000) :
    Calls Tryd.prog 76 #[.pointer (some ⟨g, 0, none⟩)] w fun e w' => e = .returned (.string (s.extract (at_ + 1) (at_ + 1 + numAt s at_ 1))) ∧ Rdr w' g s (at_ + 1 + numAt s at_ 1) ∧ w.grownBy w' (some g) := by
  have HG := Aside0.mk (rget_calls g 1 s at_ w h (by omega) (by omega) (by omega) hs)
  have HB := Aside0.mk (fun W (h : Rdr W g s (at_ + 1)) => rbytes_calls g (numAt s at_ 1) s (at_ + 1) W h ha hs)
  clear h
  go_enter Tryd.func76, Tryd.ntmps76
  go_wp2_with (first
    | (go_at_call 59; refine HG.out.mono ?_; rintro e w1 ⟨rfl, hr1, ho1⟩; have HR1 := Aside0.mk hr1; have HO1 := Aside0.mk ho1; clear hr1 ho1)
    | (go_at_call 57; refine (HB.out w1 HR1.out).mono ?_; rintro e w2 ⟨rfl, hr2, ho2⟩; have HR2 := Aside0.mk hr2; have HO2 := Aside0.mk (only_trans HO1.out ho2); clear hr2 ho2))
  go_ret
  exact ⟨rfl, HR2.out, HO2.out⟩
end Go.Proofs.YtiloadafnalhpaaDoor
namespace Go.Proofs.YtiloadafnalhpaaDoor
open Go.RowKit Go.Proofs.YtiloadafnalhpaaDoorW.PrintWords Go.Proofs.YtiloadafnalhpaaDoorW.PrintLast Go.Proofs.YtiloadafnalhpaaDoorW.PrintMore
open Go.Proofs.YtiloadafnalhpaaDoor.PA
set_option linter.unusedVariables false
set_option linter.unusedSimpArgs false

theorem size_nd : (Tryd.prog.info? 33).map (·.size) = some 7 := by kernel_rfl
def nodeA (p : ByteArray) (a b c d e : Int) (t : ByteArray) : Array Value := #[.string p, .int .i64 a, .int .i64 b, .int .i64 c, .int .i64 d, .int .i64 e, .string t]
theorem nodeA_one (p : ByteArray) (a b c d e : Int) (t : ByteArray) : (nodeA p a b c d e t).all (·.oneCell') = true := Array.all_eq_true_iff_forall_mem.2 (fun v hv => by
  simp only [nodeA, List.mem_toArray, List.mem_cons, List.not_mem_nil, or_false] at hv
  rcases hv with rfl | rfl | rfl | rfl | rfl | rfl | rfl <;> rfl)
theorem only_setRow {a w : World} {g k : Nat} (h : a.grownBy w (some g)) (hk : k = g ∨ a.heap.size ≤ k) (cs : Array Value) : a.grownBy (w.setRow k cs) (some g) :=
  ⟨h.os, h.tape, h.output, by simpa using h.size, fun i hi hne => (setRow_other w k i cs (by
    rintro rfl
    rcases hk with hk | hk
    · exact hne (by rw [hk])
    · omega)).trans (h.block i hi hne)⟩
set_option maxHeartbeats 1000000 in
set_option maxRecDepth 100000 in
theorem rnode_dir (g : Nat) (s : ByteArray) (at_ : Nat) (A : Option Addr) (n c : Nat) (w : World) (h : Rdr w g s at_) (hk : numAt s at_ 1 = 2) (ha : at_ + 1 + 1 + numAt s (at_ + 1) 1 ≤ s.size) (hs : s.size ≤ 100000000) (hn : n ≤ 100000000) :
    Calls Tryd.prog 60 #[.pointer (some ⟨g, 0, none⟩), .slice A n c] w fun e w' =>
      e = .returned (.agg #[.string (s.extract (at_ + 1 + 1) (at_ + 1 + 1 + numAt s (at_ + 1) 1)), .int .i64 ((n : Int) + 1), .int .i64 0, .int .i64 2, .int .i64 0, .int .i64 0, .string ⟨#[]⟩]) ∧ Rdr w' g s (at_ + 1 + 1 + numAt s (at_ + 1) 1) ∧ w.grownBy w' (some g) := by
  have hg := h.lt
  have hal : ∀ o, Rdr (w.alloc o) g s at_ := fun o => h.below ((Below.refl _ _).alloc (Nat.le_refl _) o)
  have HA := Aside0.mk hal
  have HG := Aside0.mk (fun W (h : Rdr W g s at_) => rget_calls g 1 s at_ W h (by omega) (by omega) (by omega) hs)
  have HT := Aside0.mk (fun W (h : Rdr W g s (at_ + 1)) => rtext_calls g s (at_ + 1) W h ha hs)
  rw [hk] at HG
  clear hal h hk
  go_enter Tryd.func60, Tryd.ntmps60
  go_wp2_with (first
    | (go_at_call 59; refine (HG.out _ (HA.out _)).mono ?_; rintro e w1 ⟨rfl, hr1, ho1⟩; have HR1 := Aside0.mk hr1; have HO1 := Aside0.mk ho1; clear hr1 ho1)
    | (go_at_call 76; refine (HT.out w1 HR1.out).mono ?_; rintro e w2 ⟨rfl, hr2, ho2⟩; have HR2 := Aside0.mk hr2; have HO2 := Aside0.mk (only_trans HO1.out ho2); have HE := Aside0.mk ((HO2.out.block w.heap.size (by simp) (by intro e; injection e with e; omega)).trans (heap_alloc_new w _)); clear hr2 ho2)
    | (refine wpList_store_row rfl 33 _ _ rfl w.heap.size (nodeA _ _ _ _ _ _ _) rfl rfl 33 _ (blk_alloc HE.out _) size_nd rfl (nodeA_one _ _ _ _ _ _ _) ?_))
  have hB : w.grownBy w2 (some g) := only_trans (only_alloc (World.grownBy.refl _ _) _) HO2.out
  have hw2 := hB.size
  refine bodyPost_ret (results_cell_row Tryd.results60 _ _ w.heap.size 33 (nodeA _ _ _ _ _ _ _) (0, 0) _ rfl (setRow_heap _ _ _ _ _ _ (blk_alloc HE.out _)) Tryd.underlying33 rfl size_nd) rfl ⟨rfl, ?_, only_setRow (only_alloc hB _) (.inr (Nat.le_refl _)) _⟩
  exact (setRow_other _ _ _ _ (by omega)).trans (HR2.out.below ((Below.refl _ _).alloc (Nat.le_refl _) _))
end Go.Proofs.YtiloadafnalhpaaDoor
namespace Go.Proofs.YtiloadafnalhpaaDoor
open Go.RowKit Go.Proofs.YtiloadafnalhpaaDoorW.PrintWords Go.Proofs.YtiloadafnalhpaaDoorW.PrintLast Go.Proofs.YtiloadafnalhpaaDoorW.PrintMore
open Go.Proofs.YtiloadafnalhpaaDoor.PA
set_option linter.unusedVariables false
set_option linter.unusedSimpArgs false

set_option maxHeartbeats 1000000 in
set_option maxRecDepth 100000 in
theorem agave_nil (w : World) : Calls Tryd.prog 56 #[.nilIface] w fun e w' => e = .returned (.int .i64 0) ∧ w' = w := by
  go_enter Tryd.func56, Tryd.ntmps56
  go_wp2
  go_ret
  exact ⟨rfl, rfl⟩
set_option maxHeartbeats 1000000 in
set_option maxRecDepth 100000 in
theorem read1_idle (p q : Addr) (w : World) :
    CallsD Tryd.prog 55 #[.pointer (some p), .pointer (some q)] .returning w fun e u' w' => e = .returned (.tuple #[]) ∧ u' = .returning ∧ w' = w := by
  refine callsD_of_wpS Tryd.func55 rfl fun c₀ cs hu => ?_
  apply wpS_seq
  apply wpS_region
  simp [wpOpsS, go_sem, recoverD, hu, Tryd.ntmps55, Exit.thenS]
  refine (agave_nil w).mono ?_
  rintro e w1 ⟨rfl, rfl⟩
  simp [wpOpsS, go_sem, Exit.thenS]
  apply wpS_seq
  apply wpS_region
  simp [wpOpsS, go_sem, Exit.thenS]
  refine wpS_cond (t := false) (by simp [Act.eval, Array.replicate]) ?_
  simp only [Bool.false_eq_true, if_false]
  refine wpS_of_wp (wp_skip ?_)
  cases c₀
  simp_all [bodyPostS, results, Tryd.results55]
end Go.Proofs.YtiloadafnalhpaaDoor
namespace Go.Proofs.YtiloadafnalhpaaDoor
open Go.RowKit Go.Proofs.YtiloadafnalhpaaDoorW.PrintWords Go.Proofs.YtiloadafnalhpaaDoorW.PrintLast Go.Proofs.YtiloadafnalhpaaDoorW.PrintMore
open Go.Proofs.YtiloadafnalhpaaDoor.PA
set_option linter.unusedVariables false
set_option linter.unusedSimpArgs false

theorem new_cells2 (W : World) (o : Obj) (x : Nd) : ∀ j u, (encN x)[j]? = some u → ((W.alloc o).alloc (.cells #[.string x.f0, .int .i64 x.f1.f0, .int .i64 x.f1.f1, .int .i64 x.f1.f2, .int .i64 x.f1.f3, .int .i64 x.f1.f4, .string x.f2] 33)).cell? ((⟨W.heap.size + 1, 0, none⟩ : Addr).add j) = some u := by
  intro j u h
  have := new_cells (W.alloc o) x j u h
  rwa [show (W.alloc o).heap.size = W.heap.size + 1 by simp] at this
set_option maxHeartbeats 16000000 in
set_option maxRecDepth 100000 in
theorem few_calls (A : Option Addr) (c : Nat) (l : List Nd) (w : World) (hr : Kd.C k33 w A l.length l) (hg : ∀ n ∈ l, GoodN n) (hl : l.length ≤ 9223372036854775807) :
    Calls Tryd.prog 4 #[.slice A l.length c] w fun e w' => ∃ (v : Value) (ns : List Nd), e = .returned v ∧ OwnN w' w.heap.size v ns ∧ ns.length ≤ 40 ∧ (∀ n ∈ ns, GoodN n) ∧ Below w.heap.size w w' := by
  have HG := Aside0.mk hg
  have HC := Aside0.mk hr
  clear hg hr
  go_enter Tryd.func4, Tryd.ntmps4
  go_wp2
  obtain ⟨i0, hi, hz0, hz1, hz2⟩ := info_parts info33
  go_loopw [3, 4, 5] (fun v3 v4 v5 wr => ∃ (i sz : Nat) (ns : List Nd), v4 = .int .i64 sz ∧ v5 = .int .i64 i ∧ i ≤ l.length ∧ i ≤ 40 ∧ ns.length ≤ i ∧ sz ≤ 60000 ∧ Aside0 (∀ n ∈ ns, GoodN n) ∧ Aside0 (OwnN wr w.heap.size v3 ns) ∧ Aside0 (Below w.heap.size w wr)) (fun _ _ v5 _ => l.length - (intOf v5).toNat)
  case atStart => exact ⟨0, 0, [], rfl, rfl, Nat.zero_le _, by omega, Nat.zero_le _, by omega, ⟨fun n h => by cases h⟩, ⟨own_nil _ _ _ _⟩, ⟨Below.refl _ _⟩⟩
  case round =>
    obtain ⟨i, sz, ns, rfl, rfl, hil, hi40, hns, hsz, HGN, HO, HB⟩ := hrel
    have hszr : w.heap.size ≤ wr.heap.size := HB.out.size
    have hb0 : ns.length + 1 ≤ maxLen ∧ (ns.length + 1) * 72 ≤ 140737488355328 := ⟨by unfold maxLen; omega, by omega⟩
    by_cases h1 : i < l.length
    · by_cases h2 : i < 40
      · obtain ⟨x, hx⟩ : ∃ x, l[i]? = some x := ⟨_, List.getElem?_eq_getElem h1⟩
        obtain ⟨ad, hA⟩ : ∃ ad, A = some ad := by obtain ⟨ad, e, _⟩ := HC.out.2.2 (by omega); exact ⟨ad, e⟩
        subst hA
        obtain ⟨n0, n1, n2, n3, n4, n5, n6⟩ := node_add (Kd.C_below HC.out HB.out) hx
        have hxg := HG.out x (List.mem_of_getElem? hx)
        have HXG := Aside0.mk hxg
        have hx2 : x.f2.size ≤ 4611686018427387903 := hxg.2.1
        clear hx hxg
        by_cases hbig : (x.f2.size : Int) > 60000 - sz
        · have hd : decide ((60000 : Int) - (sz : Int) < (x.f2.size : Int)) = true := decide_eq_true hbig
          clear hbig
          go_wp2_with (at_builtin; go_loud (refine wpList_append_own _ rfl (.tmp 33) (.tmp 35) 22 rfl w.heap.size 33 i0 _ 7 72 Tryd.underlying22 hi hz0 hz1 hz2 rfl (by decide) _ ns.length (flatN ns) rfl ((HO.out.alloc _).alloc _) ⟨_, 0, none⟩ 1 1 (encN ⟨x.f0, x.f1, ⟨#[]⟩⟩) rfl rfl (new_cells2 _ _ ⟨x.f0, x.f1, ⟨#[]⟩⟩) (encN_one ⟨x.f0, x.f1, ⟨#[]⟩⟩) hb0.1 hb0.2 (by simp; omega) ?_); intro v7 w5 hown1 hg1 _; have H5 := Aside0.mk (OwnN.snoc hown1); have HB5 := Aside0.mk (app_below (B := w.heap.size) (w2 := w) (HB.out.alloc hszr _) (by simp; omega) (HO.out.alloc _) hg1); clear hown1 hg1)
          go_roundw
          case rel => exact ⟨i + 1, sz, _, by go_num, by go_num, by omega, by omega, by simp; omega, hsz, ⟨fun n hn => by
            rcases List.mem_append.1 hn with hn | hn
            · exact HGN.out n hn
            · rw [List.mem_singleton.1 hn]; exact ⟨HXG.out.1, Nat.zero_le _, HXG.out.2.2⟩⟩, H5, HB5⟩
          case measure => simp [intOf]; omega
        · have hd : decide ((60000 : Int) - (sz : Int) < (x.f2.size : Int)) = false := decide_eq_false (by omega)
          have hs6 : sz + x.f2.size ≤ 60000 := by omega
          clear hbig
          go_wp2_with (at_builtin; go_loud (refine wpList_append_own _ rfl (.tmp 33) (.tmp 35) 22 rfl w.heap.size 33 i0 _ 7 72 Tryd.underlying22 hi hz0 hz1 hz2 rfl (by decide) _ ns.length (flatN ns) rfl ((HO.out.alloc _).alloc _) ⟨_, 0, none⟩ 1 1 (encN x) rfl rfl (new_cells2 _ _ x) (encN_one x) hb0.1 hb0.2 (by simp; omega) ?_); intro v7 w5 hown1 hg1 _; have H5 := Aside0.mk (OwnN.snoc hown1); have HB5 := Aside0.mk (app_below (B := w.heap.size) (w2 := w) (HB.out.alloc hszr _) (by simp; omega) (HO.out.alloc _) hg1); clear hown1 hg1)
          go_roundw
          case rel => exact ⟨i + 1, sz + x.f2.size, _, by go_num, by go_num, by omega, by omega, by simp; omega, hs6, ⟨fun n hn => by
            rcases List.mem_append.1 hn with hn | hn
            · exact HGN.out n hn
            · rw [List.mem_singleton.1 hn]; exact HXG.out⟩, H5, HB5⟩
          case measure => simp [intOf]; omega
      · go_wp2
        go_ret
        exact ⟨_, ns, rfl, HO.out, by omega, HGN.out, HB.out⟩
    · go_wp2
      go_ret
      exact ⟨_, ns, rfl, HO.out, by omega, HGN.out, HB.out⟩
end Go.Proofs.YtiloadafnalhpaaDoor
