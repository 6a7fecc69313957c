/-
  PLAIN LEAN: how two paths stand ('ordL': archive.order), that it is a strict order on texts without the bytes 0, and the reference's Less.
  The walks of archive.order and of the comparison that archive.Normal hands to the sort.
  slices.SortFunc as archive.Normal calls it: the nodes in the order of their paths.
-/
import Derived.Test.YtiloadafnalhpaaDoorJ2
import Derived.Test.YtiloadafnalhpaaDoorShelf
import Derived.Shelf.SlSortCmp.WholeK
namespace Go.Proofs.YtiloadafnalhpaaDoor
set_option linter.unusedVariables false

/-- A slash counts as 0. -/
def slB (b : UInt8) : Int := if b = 47 then 0 else b.toNat

def ordL : List UInt8 → List UInt8 → Int
  | x :: xs, y :: ys => if x = y then ordL xs ys else slB x - slB y
  | [], ys => - (ys.length : Int)
  | x :: xs, [] => (xs.length : Int) + 1

theorem ordL_nil (ys : List UInt8) : ordL [] ys = - (ys.length : Int) := by cases ys <;> rfl
theorem ordL_done : ∀ (xs ys : List UInt8), xs = [] ∨ ys = [] → ordL xs ys = (xs.length : Int) - ys.length
  | [], ys, _ => by rw [ordL_nil]; simp
  | x :: xs, [], _ => by simp [ordL]
  | x :: xs, y :: ys, h => by simp at h
theorem ordL_eq (x : UInt8) (xs ys : List UInt8) : ordL (x :: xs) (x :: ys) = ordL xs ys := by simp [ordL]
theorem ordL_ne {x y : UInt8} (xs ys : List UInt8) (h : x ≠ y) : ordL (x :: xs) (y :: ys) = slB x - slB y := by simp [ordL, h]

theorem ordL_drop (a b : List UInt8) (k : Nat) (ha : k < a.length) (hb : k < b.length) :
    ordL (a.drop k) (b.drop k) = if a[k]'ha = b[k]'hb then ordL (a.drop (k + 1)) (b.drop (k + 1)) else slB (a[k]'ha) - slB (b[k]'hb) := by
  rw [List.drop_eq_getElem_cons ha, List.drop_eq_getElem_cons hb]; rfl

/-- No byte 0 (what a path has not). -/
def noNul (l : List UInt8) : Prop := ∀ b ∈ l, b ≠ 0

theorem slB_inj {x y : UInt8} (hx : x ≠ 0) (hy : y ≠ 0) (h : slB x = slB y) : x = y := by
  have h0 : ∀ z : UInt8, z ≠ 0 → z.toNat ≠ 0 := fun z hz e => hz (UInt8.toNat_inj.1 (by simpa using e))
  have := h0 x hx; have := h0 y hy
  unfold slB at h
  split at h <;> split at h
  · simp_all
  · omega
  · omega
  · exact UInt8.toNat_inj.1 (by omega)

theorem ordL_irrefl : ∀ l : List UInt8, ordL l l = 0
  | [] => rfl
  | x :: l => by rw [ordL_eq]; exact ordL_irrefl l

theorem ordL_zero : ∀ (a b : List UInt8), noNul a → noNul b → ordL a b = 0 → a = b
  | [], [], _, _, _ => rfl
  | [], y :: ys, _, _, h => by rw [ordL_nil] at h; (simp at h <;> omega)
  | x :: xs, [], _, _, h => by simp [ordL] at h <;> omega
  | x :: xs, y :: ys, ha, hb, h => by
    by_cases e : x = y
    · subst e; rw [ordL_eq] at h
      rw [ordL_zero xs ys (fun b m => ha b (List.mem_cons_of_mem _ m)) (fun b m => hb b (List.mem_cons_of_mem _ m)) h]
    · rw [ordL_ne _ _ e] at h
      exact absurd (slB_inj (ha x (by simp)) (hb y (by simp)) (by omega)) e

theorem ordL_anti : ∀ (a b : List UInt8), ordL b a = - ordL a b
  | [], [] => rfl
  | [], y :: ys => by simp [ordL]
  | x :: xs, [] => by simp [ordL]
  | x :: xs, y :: ys => by
    by_cases e : x = y
    · subst e; rw [ordL_eq, ordL_eq]; exact ordL_anti xs ys
    · rw [ordL_ne _ _ e, ordL_ne _ _ (Ne.symm e)]; omega

theorem ordL_trans : ∀ (a b c : List UInt8), noNul a → noNul b → noNul c → ordL a b < 0 → ordL b c < 0 → ordL a c < 0
  | [], b, [], _, _, _, h1, h2 => by
    cases b with
    | nil => simp [ordL] at h1
    | cons y ys => (simp [ordL] at h2 <;> omega)
  | [], b, z :: zs, _, _, _, h1, h2 => by (rw [ordL_nil]; simp <;> omega)
  | x :: xs, [], c, _, _, _, h1, h2 => by (simp [ordL] at h1 <;> omega)
  | x :: xs, y :: ys, [], _, _, _, h1, h2 => by (simp [ordL] at h2 <;> omega)
  | x :: xs, y :: ys, z :: zs, ha, hb, hc, h1, h2 => by
    have ia := fun b m => ha b (List.mem_cons_of_mem x m)
    have ib := fun b m => hb b (List.mem_cons_of_mem y m)
    have ic := fun b m => hc b (List.mem_cons_of_mem z m)
    by_cases e1 : x = y
    · subst e1
      rw [ordL_eq] at h1
      by_cases e2 : x = z
      · subst e2; rw [ordL_eq] at h2 ⊢; exact ordL_trans xs ys zs ia ib ic h1 h2
      · rw [ordL_ne _ _ e2] at h2 ⊢; exact h2
    · rw [ordL_ne _ _ e1] at h1
      by_cases e2 : y = z
      · subst e2; rw [ordL_ne _ _ e1]; exact h1
      · rw [ordL_ne _ _ e2] at h2
        have e3 : x ≠ z := by rintro rfl; omega
        rw [ordL_ne _ _ e3]; omega
end Go.Proofs.YtiloadafnalhpaaDoor
namespace Go.Proofs.YtiloadafnalhpaaDoor
open Go.RowKit Go.Proofs.YtiloadafnalhpaaDoorW.PrintWords Go.Proofs.YtiloadafnalhpaaDoorW.PrintLast Go.Proofs.YtiloadafnalhpaaDoorW.PrintMore
open Go.Proofs.YtiloadafnalhpaaDoor.PA
attribute [local go_sem] max2_int min2_int max_two min_two
set_option linter.unusedVariables false
set_option linter.unusedSimpArgs false

theorem ret_int {k : IntKind} {a b : Int} (h : a = b) : Ending.returned (.int k a) = .returned (.int k b) := by rw [h]
theorem slB_47 : slB 47 = 0 := rfl
theorem slB_of {b : UInt8} (h : b ≠ 47) : slB b = b.toNat := by simp [slB, h]

theorem b_eq {x y : UInt8} (h : ((x.toNat : Int) == (y.toNat : Int)) = true) : x = y := UInt8.toNat_inj.1 (by have := beq_iff_eq.1 h; omega)
theorem b_ne {x y : UInt8} (h : ((x.toNat : Int) == (y.toNat : Int)) = false) : x ≠ y := fun e => by subst e; simp at h
theorem b_47 {x : UInt8} (h : ((x.toNat : Int) == 47) = true) : x = 47 := UInt8.toNat_inj.1 (by have := beq_iff_eq.1 h; show x.toNat = 47; omega)
theorem b_n47 {x : UInt8} (h : ((x.toNat : Int) == 47) = false) : x ≠ 47 := fun e => by subst e; simp at h
theorem w_b (x : UInt8) : wrap64 (x.toNat : Int) = x.toNat := by have := x.toNat_lt; unfold wrap64; omega
theorem ord_go {x y : UInt8} {r q : Int} (h : (if x = y then q else slB x - slB y) = r) (e : ((x.toNat : Int) == (y.toNat : Int)) = true) : q = r := by rw [if_pos (b_eq e)] at h; exact h
theorem ord_e1 {x y : UInt8} {r q : Int} (h : (if x = y then q else slB x - slB y) = r) (e : ((x.toNat : Int) == (y.toNat : Int)) = false) (e1 : ((x.toNat : Int) == 47) = true) (e2 : ((y.toNat : Int) == 47) = false) : wrap64 (-wrap64 (y.toNat : Int)) = r := by
  rw [if_neg (b_ne e), b_47 e1, slB_47, slB_of (b_n47 e2)] at h
  have := y.toNat_lt; rw [w_b, ← h]; unfold wrap64; omega
theorem ord_e2 {x y : UInt8} {r q : Int} (h : (if x = y then q else slB x - slB y) = r) (e : ((x.toNat : Int) == (y.toNat : Int)) = false) (e1 : ((x.toNat : Int) == 47) = false) (e2 : ((y.toNat : Int) == 47) = true) : wrap64 (wrap64 (x.toNat : Int)) = r := by
  rw [if_neg (b_ne e), b_47 e2, slB_47, slB_of (b_n47 e1)] at h
  rw [w_b, w_b, ← h]; omega
theorem ord_e3 {x y : UInt8} {r q : Int} (h : (if x = y then q else slB x - slB y) = r) (e : ((x.toNat : Int) == (y.toNat : Int)) = false) (e1 : ((x.toNat : Int) == 47) = false) (e2 : ((y.toNat : Int) == 47) = false) : wrap64 (wrap64 (x.toNat : Int) - wrap64 (y.toNat : Int)) = r := by
  rw [if_neg (b_ne e), slB_of (b_n47 e1), slB_of (b_n47 e2)] at h
  have := x.toNat_lt; have := y.toNat_lt
  rw [w_b, w_b, ← h]; unfold wrap64; omega

set_option maxHeartbeats 8000000 in
set_option maxRecDepth 100000 in
theorem order_calls (a b : ByteArray) (w : World) (ha : a.size ≤ 4611686018427387904) (hb : b.size ≤ 4611686018427387904) :
    Calls Tryd.prog 12 #[.string a, .string b] w fun e w' => e = .returned (.int .i64 (ordL a.data.toList b.data.toList)) ∧ ∃ n, w' = w.drewN n := by
  obtain ⟨r, HR⟩ : ∃ r : Int, Aside0 (ordL a.data.toList b.data.toList = r) := ⟨_, ⟨rfl⟩⟩
  rw [HR.out]
  have HA := Aside0.mk (toList_size a)
  have HB := Aside0.mk (toList_size b)
  obtain ⟨m, hm⟩ : ∃ m : Nat, (a.size ≤ b.size ∧ m = a.size) ∨ (b.size < a.size ∧ m = b.size) := by
    rcases Nat.lt_or_ge b.size a.size with h | h
    · exact ⟨_, .inr ⟨h, rfl⟩⟩
    · exact ⟨_, .inl ⟨h, rfl⟩⟩
  have hma : m ≤ a.size := by omega
  have hmb : m ≤ b.size := by omega
  have hme : m = a.size ∨ m = b.size := by omega
  rcases hm with ⟨h, he⟩ | ⟨h, he⟩
  · have hi : ¬ ((b.size : Int) < (a.size : Int)) := by omega
    go_enter Tryd.func12, Tryd.ntmps12
    go_wp2
    go_loopw [13] (fun i wr => ∃ k : Nat, i = .int .i64 k ∧ k ≤ m ∧ Aside0 (ordL (a.data.toList.drop k) (b.data.toList.drop k) = r) ∧ Drawn0 w wr) (fun i _ => m - (intOf i).toNat)
    case atStart => exact ⟨0, rfl, Nat.zero_le _, HR, Drawn0.refl _⟩
    case round =>
      obtain ⟨k, rfl, hk, HK, HD⟩ := hrel
      by_cases hlt : k < m
      · have hka : (k : Int) < (a.size : Int) := by omega
        have hkb : (k : Int) < (b.size : Int) := by omega
        have hka' : k < a.size := by omega
        have hkb' : k < b.size := by omega
        have HS : Aside0 ((if a[k] = b[k] then ordL (a.data.toList.drop (k + 1)) (b.data.toList.drop (k + 1)) else slB a[k] - slB b[k]) = r) := ⟨by
          rw [← HK.out, ordL_drop _ _ k (by rw [HA.out]; exact hka') (by rw [HB.out]; exact hkb')]; rfl⟩
        go_wp2
        go_quiet (fail)
        go_wp2
        · go_roundw
          case rel => exact ⟨k + 1, by go_num, by omega, ⟨ord_go HS.out ‹_›⟩, HD.step _⟩
          case measure => simp [intOf]; omega
        · go_ret
          exact ⟨ret_int (ord_e1 HS.out ‹_› ‹_› ‹_›), (HD.step _).out⟩
        · go_ret
          exact ⟨ret_int (ord_e2 HS.out ‹_› ‹_› ‹_›), (HD.step _).out⟩
        · go_ret
          exact ⟨ret_int (ord_e3 HS.out ‹_› ‹_› ‹_›), (HD.step _).out⟩
      · obtain rfl : k = m := by omega
        have HF : Aside0 ((a.size : Int) - b.size = r) := ⟨by
          rw [← HK.out, ordL_done _ _ (hme.elim (fun e => .inl (List.drop_eq_nil_of_le (by simp; omega))) (fun e => .inr (List.drop_eq_nil_of_le (by simp; omega))))]
          simp; omega⟩
        go_wp2
        go_ret
        exact ⟨ret_int HF.out, HD.out⟩
  · have hi : ((b.size : Int) < (a.size : Int)) := by omega
    go_enter Tryd.func12, Tryd.ntmps12
    go_wp2
    go_loopw [13] (fun i wr => ∃ k : Nat, i = .int .i64 k ∧ k ≤ m ∧ Aside0 (ordL (a.data.toList.drop k) (b.data.toList.drop k) = r) ∧ Drawn0 w wr) (fun i _ => m - (intOf i).toNat)
    case atStart => exact ⟨0, rfl, Nat.zero_le _, HR, Drawn0.refl _⟩
    case round =>
      obtain ⟨k, rfl, hk, HK, HD⟩ := hrel
      by_cases hlt : k < m
      · have hka : (k : Int) < (a.size : Int) := by omega
        have hkb : (k : Int) < (b.size : Int) := by omega
        have hka' : k < a.size := by omega
        have hkb' : k < b.size := by omega
        have HS : Aside0 ((if a[k] = b[k] then ordL (a.data.toList.drop (k + 1)) (b.data.toList.drop (k + 1)) else slB a[k] - slB b[k]) = r) := ⟨by
          rw [← HK.out, ordL_drop _ _ k (by rw [HA.out]; exact hka') (by rw [HB.out]; exact hkb')]; rfl⟩
        go_wp2
        go_quiet (fail)
        go_wp2
        · go_roundw
          case rel => exact ⟨k + 1, by go_num, by omega, ⟨ord_go HS.out ‹_›⟩, HD.step _⟩
          case measure => simp [intOf]; omega
        · go_ret
          exact ⟨ret_int (ord_e1 HS.out ‹_› ‹_› ‹_›), (HD.step _).out⟩
        · go_ret
          exact ⟨ret_int (ord_e2 HS.out ‹_› ‹_› ‹_›), (HD.step _).out⟩
        · go_ret
          exact ⟨ret_int (ord_e3 HS.out ‹_› ‹_› ‹_›), (HD.step _).out⟩
      · obtain rfl : k = m := by omega
        have HF : Aside0 ((a.size : Int) - b.size = r) := ⟨by
          rw [← HK.out, ordL_done _ _ (hme.elim (fun e => .inl (List.drop_eq_nil_of_le (by simp; omega))) (fun e => .inr (List.drop_eq_nil_of_le (by simp; omega))))]
          simp; omega⟩
        go_wp2
        go_ret
        exact ⟨ret_int HF.out, HD.out⟩
end Go.Proofs.YtiloadafnalhpaaDoor
namespace Go.Proofs.YtiloadafnalhpaaDoor
open Go.RowKit Go.Proofs.YtiloadafnalhpaaDoorW.PrintWords Go.Proofs.YtiloadafnalhpaaDoorW.PrintLast Go.Proofs.YtiloadafnalhpaaDoorW.PrintMore
open Go.Proofs.YtiloadafnalhpaaDoor.PA Go.Shelf Go.Sort
set_option linter.unusedVariables false
set_option linter.unusedSimpArgs false

abbrev Nd := S33
/-- A node's seven cells. -/
def encN (x : Nd) : List Value := [.string x.f0, .int .i64 x.f1.f0, .int .i64 x.f1.f1, .int .i64 x.f1.f2, .int .i64 x.f1.f3, .int .i64 x.f1.f4, .string x.f2]
def pth (x : Nd) : List UInt8 := x.f0.data.toList
def dat (x : Nd) : List UInt8 := x.f2.data.toList

/-- The nodes that the sort is handed: short paths without the byte 0. -/
def VN := { n : Nd // noNul (pth n) ∧ (pth n).length ≤ 255 }
instance : Inhabited VN := ⟨⟨⟨⟨#[]⟩, z31, ⟨#[]⟩⟩, by simp [noNul, pth], by simp [pth]⟩⟩
def encV (x : VN) : List Value := encN x.1
def cmpV (x y : VN) : Int := ordL (pth x.1) (pth y.1)

theorem drewN_grow2 (W : World) (o1 o2 : Obj) (n : Nat) : ((W.alloc o1).alloc o2).drewN n = grow (W.drewN n) #[o1, o2] := by
  rw [alloc_eq_grow, alloc_eq_grow, grow_grow]; rfl

set_option maxHeartbeats 4000000 in
set_option maxRecDepth 100000 in
theorem closure_calls (x y : Nd) (hx : x.f0.size ≤ 4611686018427387904) (hy : y.f0.size ≤ 4611686018427387904) (W : World) :
    Calls Tryd.prog 11 #[.agg (encN x).toArray, .agg (encN y).toArray] W fun e w' => e = .returned (.int .i64 (ordL (pth x) (pth y))) ∧ ∃ q os', w' = grow (W.drewN q) os' := by
  have hcon := fun W' => order_calls x.f0 y.f0 W' hx hy
  unfold encN
  simp only [List.toArray]
  obtain ⟨r, hr⟩ : ∃ r : Int, ordL (pth x) (pth y) = r := ⟨_, rfl⟩
  have hr' : ordL x.f0.data.toList y.f0.data.toList = r := hr
  rw [hr]
  rw [hr'] at hcon
  clear hr hr' hx hy
  go_enter Tryd.func11, Tryd.ntmps11
  go_wp2_with (go_at_call 12; refine (hcon _).mono ?_; rintro e w' ⟨rfl, nq, rfl⟩)
  go_ret
  exact ⟨rfl, _, _, drewN_grow2 _ _ _ _⟩

theorem cmpLays (blk off size : Nat) (w : World) : CmpLays Tryd.prog 11 #[] encV 7 cmpV blk off size w :=
  fun _ _ _ _ x y => closure_calls x.1 y.1 (by have := x.2.2; simp [pth] at this; omega) (by have := y.2.2; simp [pth] at this; omega) _

theorem lt_iff (x y : VN) : ltOf cmpV x y = true ↔ ordL (pth x.1) (pth y.1) < 0 := by unfold ltOf cmpV; simp
theorem nlt_iff (x y : VN) : ltOf cmpV x y = false ↔ 0 ≤ ordL (pth x.1) (pth y.1) := by unfold ltOf cmpV; simp
theorem swoV : SWO (ltOf cmpV) where
  irrefl x := by rw [nlt_iff, ordL_irrefl]; exact Int.le_refl _
  trans x y z h1 h2 := by
    rw [lt_iff] at *
    exact ordL_trans _ _ _ x.2.1 y.2.1 z.2.1 h1 h2
  ntrans x y z h1 h2 := by
    rw [nlt_iff] at *
    have a1 := ordL_anti (pth x.1) (pth y.1)
    have a2 := ordL_anti (pth y.1) (pth z.1)
    have a3 := ordL_anti (pth x.1) (pth z.1)
    by_cases e1 : ordL (pth y.1) (pth x.1) < 0
    · by_cases e2 : ordL (pth z.1) (pth y.1) < 0
      · have := ordL_trans _ _ _ z.2.1 y.2.1 x.2.1 e2 e1
        omega
      · have hz : ordL (pth y.1) (pth z.1) = 0 := by omega
        rw [← ordL_zero _ _ y.2.1 z.2.1 hz]; exact h1
    · have hz : ordL (pth x.1) (pth y.1) = 0 := by omega
      rw [ordL_zero _ _ x.2.1 y.2.1 hz]; exact h2
end Go.Proofs.YtiloadafnalhpaaDoor
