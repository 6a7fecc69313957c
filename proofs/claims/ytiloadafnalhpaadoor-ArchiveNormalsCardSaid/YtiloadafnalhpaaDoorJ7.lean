/-
  PLAIN: what the reference's little functions answer (the print's own Lean functions), and what its Normal comes to.
  PLAIN: the reference's Split and may.
-/
import Derived.Test.YtiloadafnalhpaaDoorJ6
import Derived.Test.YtiloadafnalhpaaDoorPAx2
namespace Go.Proofs.YtiloadafnalhpaaDoor
open Go.RowKit Go.Proofs.YtiloadafnalhpaaDoorW.PrintWords Go.Proofs.YtiloadafnalhpaaDoorW.PrintLast Go.Proofs.YtiloadafnalhpaaDoorW.PrintMore
open Go.Proofs.YtiloadafnalhpaaDoor.PA
set_option linter.unusedVariables false
set_option linter.unusedSimpArgs false

/-- Is one of these of this path? Its place; -1: none. -/
def findIx : List Nd → List UInt8 → Int
  | [], _ => -1
  | n :: l, p => if pth n = p then 0 else if findIx l p = -1 then -1 else findIx l p + 1
theorem findIx_range : ∀ (l : List Nd) (p : List UInt8), -1 ≤ findIx l p ∧ findIx l p < l.length
  | [], p => by simp [findIx]
  | n :: l, p => by
    have := findIx_range l p
    unfold findIx; split
    · simp <;> omega
    · split <;> simp <;> omega
theorem findIx_drop {l : List Nd} {i : Nat} {x : Nd} (hx : l[i]? = some x) (p : List UInt8) : findIx (l.drop i) p = if pth x = p then 0 else if findIx (l.drop (i + 1)) p = -1 then -1 else findIx (l.drop (i + 1)) p + 1 := by
  rw [drop_cons_nd hx]; rfl

theorem wrap_small {x : Int} (h0 : -9223372036854775808 ≤ x) (h1 : x ≤ 9223372036854775807) : wrap64 x = x := by unfold wrap64; omega

theorem find_tells (l : List Nd) (s : ByteArray) (hl : l.length ≤ 1000000) (d : Nat) : ∀ (k i : Nat), i ≤ l.length → l.length - i = d → d < k →
    grapnelref18_Find.l0 k l s i = some (if findIx (l.drop i) s.data.toList = -1 then -1 else findIx (l.drop i) s.data.toList + i) := by
  induction d with
  | zero =>
    intro k i hi hd hk
    obtain ⟨k, rfl⟩ : ∃ m, k = m + 1 := ⟨k - 1, by omega⟩
    have e : l.drop i = [] := List.drop_eq_nil_of_le (by omega)
    rw [e]
    simp only [grapnelref18_Find.l0]; rw [if_neg (by omega)]; rfl
  | succ d ih =>
    intro k i hi hd hk
    obtain ⟨k, rfl⟩ : ∃ m, k = m + 1 := ⟨k - 1, by omega⟩
    obtain ⟨x, hx⟩ : ∃ x, l[i]? = some x := ⟨_, List.getElem?_eq_getElem (by omega)⟩
    have hrd : rd_T33 l i = x := by unfold rd_T33; rw [Int.toNat_natCast, List.getD_eq_getElem?_getD, hx]; rfl
    simp only [grapnelref18_Find.l0]; rw [if_pos (by omega), if_pos (by omega), hrd, findIx_drop hx, ByteArray.toList_eq, ByteArray.toList_eq]
    by_cases hp : x.f0.data.toList = s.data.toList
    · rw [if_pos hp, if_pos (show pth x = _ from hp)]; simp
    · rw [if_neg hp, if_neg (show ¬ pth x = _ from hp), wrap_small (by omega) (by omega)]
      have := ih k (i + 1) (by omega) (by omega) (by omega)
      have hr := findIx_range (l.drop (i + 1)) s.data.toList
      rw [show ((i : Int) + 1) = ((i + 1 : Nat) : Int) by omega, this]
      congr 1
      split
      · rfl
      · rw [if_neg (by omega)]; omega
theorem find_f (l : List Nd) (s : ByteArray) (hl : l.length ≤ 1000000) : ∃ k, grapnelref18_Find.f k l s = some (findIx l s.data.toList) := by
  refine ⟨l.length + 1, ?_⟩
  unfold grapnelref18_Find.f
  have := find_tells l s hl l.length (l.length + 1) 0 (Nat.zero_le _) (by omega) (by omega)
  rw [show (0 : Int) = ((0 : Nat) : Int) by rfl, this, List.drop_zero]
  have hr := findIx_range l s.data.toList
  congr 1
  split
  · rename_i h; rw [h]
  · simp

theorem bt_toNat (s : ByteArray) (i : Nat) (h : i < s.size) : bt s i = ((s[i]'h).toNat : Int) := by simp [bt, h]

/-- Less is 'order is less than nought', for texts without the byte 0. -/
theorem less_tells (a b : ByteArray) (ha : a.size ≤ 1000000) (hb : b.size ≤ 1000000) (na : noNul a.data.toList) (nb : noNul b.data.toList) (d : Nat) : ∀ (k i : Nat), i ≤ a.size → i ≤ b.size → a.size - i = d → 2 * d + 1 < k →
    grapnelref18_Less.l0 k a b i = some (decide (ordL (a.data.toList.drop i) (b.data.toList.drop i) < 0)) := by
  have sa := toList_size a
  have sb := toList_size b
  induction d with
  | zero =>
    intro k i hi hj hd hk
    obtain ⟨k, rfl⟩ : ∃ m, k = m + 2 := ⟨k - 2, by omega⟩
    have e : a.data.toList.drop i = [] := List.drop_eq_nil_of_le (by omega)
    rw [e, ordL_nil]
    simp only [grapnelref18_Less.l0, grapnelref18_Less.j1]
    rw [if_neg (by omega), if_neg (by decide)]
    congr 1; rw [decide_eq_decide]; simp <;> omega
  | succ d ih =>
    intro k i hi hj hd hk
    obtain ⟨k, rfl⟩ : ∃ m, k = m + 2 := ⟨k - 2, by omega⟩
    have hia : i < a.size := by omega
    simp only [grapnelref18_Less.l0, grapnelref18_Less.j1]
    rw [if_pos (by omega)]
    by_cases hib : i < b.size
    · rw [if_pos (by simp; omega), if_pos (by omega), if_pos (by omega), if_pos (by omega), bt_toNat a i hia, bt_toNat b i hib, ordL_drop _ _ i (by omega) (by omega)]
      have ea : (a.data.toList[i]'(by omega)) = a[i]'hia := rfl
      have eb : (b.data.toList[i]'(by omega)) = b[i]'hib := rfl
      have za : a[i]'hia ≠ 0 := na _ (by rw [← ea]; exact List.getElem_mem _)
      have zb : b[i]'hib ≠ 0 := nb _ (by rw [← eb]; exact List.getElem_mem _)
      rw [ea, eb]
      have ya : (a[i]'hia).toNat ≠ 0 := fun e => za (UInt8.toNat_inj.1 (by simpa using e))
      have yb : (b[i]'hib).toNat ≠ 0 := fun e => zb (UInt8.toNat_inj.1 (by simpa using e))
      generalize a[i]'hia = x at *
      generalize b[i]'hib = y at *
      by_cases hxy : x = y
      · rw [if_pos (by rw [hxy]), if_pos hxy, wrap_small (by omega) (by omega), show ((i : Int) + 1) = ((i + 1 : Nat) : Int) by omega]
        exact ih k (i + 1) (by omega) (by omega) (by omega) (by omega)
      · have hne : ¬ ((x.toNat : Int) = (y.toNat : Int)) := fun e => hxy (UInt8.toNat_inj.1 (by omega))
        rw [if_neg hne, if_neg hxy]
        by_cases hx : x = 47
        · subst hx
          have hy : y ≠ 47 := fun e => hxy e.symm
          rw [if_pos (by rfl), slB_47, slB_of hy]
          congr 1; simp <;> omega
        · have hx' : ¬ ((x.toNat : Int) = 47) := fun e => hx (UInt8.toNat_inj.1 (by show x.toNat = 47; omega))
          rw [if_neg hx']
          by_cases hy : y = 47
          · subst hy
            rw [if_pos (by rfl), slB_47, slB_of hx]
            have : ((x.toNat : Int) == 47) = false := beq_eq_false_iff_ne.mpr hx'
            rw [this]
            have hlt : ¬ ((x.toNat : Int) - 0 < 0) := by omega
            rw [decide_eq_false hlt]
          · have hy' : ¬ ((y.toNat : Int) = 47) := fun e => hy (UInt8.toNat_inj.1 (by show y.toNat = 47; omega))
            rw [if_neg hy', slB_of hx, slB_of hy]
            congr 1; rw [decide_eq_decide]; omega
    · have hbe : b.data.toList.drop i = [] := List.drop_eq_nil_of_le (by omega)
      rw [if_neg (by simp; omega), hbe, ordL_done _ _ (.inr rfl)]
      congr 1; rw [decide_eq_decide]; simp <;> omega
theorem less_f (a b : ByteArray) (ha : a.size ≤ 1000000) (hb : b.size ≤ 1000000) (na : noNul a.data.toList) (nb : noNul b.data.toList) : ∃ k, grapnelref18_Less.f k a b = some (decide (ordL a.data.toList b.data.toList < 0)) := by
  refine ⟨2 * a.size + 2, ?_⟩
  unfold grapnelref18_Less.f
  have := less_tells a b ha hb na nb a.size (2 * a.size + 2) 0 (Nat.zero_le _) (Nat.zero_le _) (by omega) (by omega)
  simpa using this

/-- The reference's Above is the directory. -/
theorem above_tells (s : ByteArray) (hs : s.size ≤ 1000000) (h0 : 0 < s.size) (hf : (s.data[0]!).toNat = 47) (d : Nat) : ∀ (k i : Nat), i < s.size → i = d → d < k →
    (∀ j, i < j → j < s.size → ((s.data[j]!).toNat : Int) ≠ 47) → grapnelref18_Above.l0 k s i = some (aboveB s) := by
  induction d with
  | zero =>
    intro k i hi hd hk hn
    subst hd
    obtain ⟨k, rfl⟩ : ∃ m, k = m + 1 := ⟨k - 1, by omega⟩
    simp only [grapnelref18_Above.l0]
    rw [if_neg (by decide)]
    have : Lib.lastIndexByte s 47 = 0 := by
      rcases Lib.lastIndexByte_spec s 47 with ⟨_, hno⟩ | ⟨j, hj, e, hc, _⟩
      · exact absurd (by omega) (hno 0 h0)
      · rcases Nat.eq_zero_or_pos j with z | z
        · rw [e, z]; rfl
        · exact absurd hc (hn j z hj)
    unfold aboveB; rw [if_pos this]
  | succ d ih =>
    intro k i hi hd hk hn
    obtain ⟨k, rfl⟩ : ∃ m, k = m + 1 := ⟨k - 1, by omega⟩
    simp only [grapnelref18_Above.l0]
    rw [if_pos (by omega), if_pos (by omega), if_pos (by omega), bt_toNat s i hi]
    have hg : s.data[i]! = s[i]'hi := getElem!_pos s.data i hi
    by_cases hc : ((s[i]'hi).toNat : Int) = 47
    · rw [if_pos hc, if_pos (by omega)]
      have : Lib.lastIndexByte s 47 = i := by
        rcases Lib.lastIndexByte_spec s 47 with ⟨_, hno⟩ | ⟨j, hj, e, hcj, hnj⟩
        · exact absurd (by rw [hg]; exact hc) (hno i hi)
        · rcases Nat.lt_trichotomy j i with z | z | z
          · exact absurd (by rw [hg]; exact hc) (hnj i z hi)
          · rw [e, z]
          · exact absurd hcj (hn j z hj)
      unfold aboveB; rw [this, if_neg (by omega)]
    · rw [if_neg hc, wrap_small (by omega) (by omega), show ((i : Int) - 1) = ((i - 1 : Nat) : Int) by omega]
      refine ih k (i - 1) (by omega) (by omega) (by omega) (fun j h1 h2 => ?_)
      rcases Nat.lt_or_ge i j with z | z
      · exact hn j z h2
      · obtain rfl : j = i := by omega
        rw [hg]; exact hc
theorem above_f (s : ByteArray) (hs : s.size ≤ 1000000) (hf : s.data.toList.head? = some 47) : ∃ k, grapnelref18_Above.f k s = some (aboveB s) := by
  have h0 : 0 < s.size := by
    rw [← toList_size s]; cases hh : s.data.toList with
    | nil => rw [hh] at hf; cases hf
    | cons _ _ => simp
  refine ⟨s.size + 1, ?_⟩
  unfold grapnelref18_Above.f
  rw [wrap_small (by omega) (by omega), show ((s.size : Int) - 1) = ((s.size - 1 : Nat) : Int) by omega]
  have hf0 : (s.data[0]!).toNat = 47 := by
    have : s.data.toList[0]? = some 47 := by rw [← List.head?_eq_getElem?]; exact hf
    rw [Array.getElem?_toList] at this
    rw [getElem!_def, this]; rfl
  exact above_tells s hs h0 hf0 (s.size - 1) _ _ (by omega) rfl (by omega) (fun j h1 h2 => by omega)

/-! ### the reference's Name and Split -/
theorem name_tells (s : ByteArray) (hs : s.size ≤ 1000000) (d : Nat) : ∀ (k i : Nat), i ≤ s.size → s.size - i = d → d < k →
    grapnelref10_Name.l0 k s i = some (if (s.data.toList.drop i).all okB = true then 0 else 40) := by
  induction d with
  | zero =>
    intro k i hi hd hk
    obtain ⟨k, rfl⟩ : ∃ m, k = m + 1 := ⟨k - 1, by omega⟩
    have e : s.data.toList.drop i = [] := List.drop_eq_nil_of_le (by have := toList_size s; omega)
    simp only [grapnelref10_Name.l0]; rw [if_neg (by omega), e]; rfl
  | succ d ih =>
    intro k i hi hd hk
    obtain ⟨k, rfl⟩ : ∃ m, k = m + 1 := ⟨k - 1, by omega⟩
    have hl : i < s.size := by omega
    simp only [grapnelref10_Name.l0]
    rw [if_pos (by omega), if_pos (by omega), bt_toNat s i hl, drop_okB s i hl]
    by_cases hok : okB (s[i]'hl) = true
    · obtain ⟨a, b, c⟩ := (okB_iff _).1 hok
      rw [if_neg (by omega), if_neg (by omega), if_neg (by omega), wrap_small (by omega) (by omega), show ((i : Int) + 1) = ((i + 1 : Nat) : Int) by omega, ih k (i + 1) (by omega) (by omega) (by omega), hok, Bool.true_and]
    · have hn : ¬ (33 ≤ (s[i]'hl).toNat ∧ (s[i]'hl).toNat ≤ 126 ∧ (s[i]'hl).toNat ≠ 47) := fun h => hok ((okB_iff _).2 h)
      have hok' : okB (s[i]'hl) = false := by simpa using hok
      rw [hok', Bool.false_and, show (if false = true then (0 : Int) else 40) = 40 from rfl]
      by_cases h1 : ((s[i]'hl).toNat : Int) < 33
      · rw [if_pos h1]
      · rw [if_neg h1]
        by_cases h2 : ((s[i]'hl).toNat : Int) > 126
        · rw [if_pos h2]
        · rw [if_neg h2, if_pos (by omega)]
theorem name_f (s : ByteArray) (hs : s.size ≤ 1000000) (k : Nat) (hk : s.size + 2 < k) : grapnelref10_Name.f k s = some (nameE s.data.toList) := by
  have sl := toList_size s
  unfold grapnelref10_Name.f nameE
  rw [ByteArray.toList_eq, sl]
  by_cases h : 19 < s.size
  · rw [if_pos (by omega), if_pos h]
  · rw [if_neg (by omega), if_neg h]
    obtain ⟨k, rfl⟩ : ∃ m, k = m + 1 := ⟨k - 1, by omega⟩
    by_cases h0 : s.data.toList = []
    · rw [if_pos h0, if_pos (.inl h0)]; simp [grapnelref10_Name.j0]
    · rw [if_neg h0]
      by_cases h1 : s.data.toList = [46]
      · rw [if_pos h1, if_pos (.inr (.inl h1))]; simp [grapnelref10_Name.j0]
      · rw [if_neg h1]
        by_cases h2 : s.data.toList = [46, 46]
        · rw [if_pos (.inr (.inr h2))]; simp [grapnelref10_Name.j0, h2]
        · rw [if_neg (by simp [h0, h1, h2])]
          have e : (s.data.toList == ([46, 46] : List UInt8)) = false := beq_eq_false_iff_ne.mpr h2
          rw [e]
          simp only [grapnelref10_Name.j0]
          rw [if_neg (by decide)]
          have := name_tells s hs s.size k 0 (Nat.zero_le _) (by omega) (by omega)
          simpa using this
end Go.Proofs.YtiloadafnalhpaaDoor
namespace Go.Proofs.YtiloadafnalhpaaDoor
open Go.RowKit Go.Proofs.YtiloadafnalhpaaDoorW.PrintWords Go.Proofs.YtiloadafnalhpaaDoorW.PrintLast Go.Proofs.YtiloadafnalhpaaDoorW.PrintMore
open Go.Proofs.YtiloadafnalhpaaDoor.PA
set_option linter.unusedVariables false
set_option linter.unusedSimpArgs false

def segsPre (pre l : List UInt8) : List (List UInt8) := (pre ++ (segs l).head!) :: (segs l).tail
theorem segsPre_nil (l : List UInt8) : segsPre [] l = segs l := by
  obtain ⟨y, t, h⟩ : ∃ y t, segs l = y :: t := List.exists_cons_of_ne_nil (segs_ne l)
  unfold segsPre; rw [h]; rfl
theorem segsPre_end (pre : List UInt8) : segsPre pre [] = [pre] := by
  show (pre ++ ([] : List UInt8)) :: [] = [pre]; rw [List.append_nil]
theorem segsPre_slash (pre l : List UInt8) : segsPre pre (47 :: l) = pre :: segs l := by
  have : segs (47 :: l) = [] :: segs l := by rw [segs, if_pos rfl]
  unfold segsPre; rw [this]; show (pre ++ ([] : List UInt8)) :: segs l = _; rw [List.append_nil]
theorem segsPre_byte (pre l : List UInt8) (b : UInt8) (h : b ≠ 47) : segsPre pre (b :: l) = segsPre (pre ++ [b]) l := by
  have : segs (b :: l) = (b :: (segs l).head!) :: (segs l).tail := by rw [segs, if_neg h]
  unfold segsPre; rw [this]; show (pre ++ b :: (segs l).head!) :: (segs l).tail = _; simp

theorem cut_grow (s : ByteArray) (a i : Nat) (h : i < s.size) (ha : a ≤ i) : (s.data.toList.drop a).take (i + 1 - a) = (s.data.toList.drop a).take (i - a) ++ [s[i]'h] := by
  have sl := toList_size s
  rw [show i + 1 - a = (i - a) + 1 by omega, List.take_succ_eq_append_getElem (by simp; omega)]
  congr 1
  simp [List.getElem_drop, show a + (i - a) = i by omega]
  rfl

theorem split_tells (s : ByteArray) (hs : s.size ≤ 255) (d : Nat) : ∀ (k i a : Nat) (x4 : List ByteArray), i ≤ s.size → a ≤ i → s.size - i = d → x4.length ≤ i → 2 * d + s.size + 8 < k →
    ∃ l, grapnelref10_Split.l0 k s x4 a i = some (l, namesE (segsPre ((s.data.toList.drop a).take (i - a)) (s.data.toList.drop i))) := by
  have sl := toList_size s
  -- a name at its end
  have hname : ∀ (k i a : Nat), i ≤ s.size → a ≤ i → s.size + 2 < k → grapnelref10_Name.f k (s.extract a i) = some (nameE ((s.data.toList.drop a).take (i - a))) := by
    intro k i a hi ha hk
    rw [name_f (s.extract a i) (by rw [ByteArray.size_extract]; omega) k (by rw [ByteArray.size_extract]; omega), Lib.extract_data]
  induction d with
  | zero =>
    intro k i a x4 hi ha hd hx hk
    obtain ⟨k, rfl⟩ : ∃ m, k = m + 3 := ⟨k - 3, by omega⟩
    have hie : i = s.size := by omega
    have he : s.data.toList.drop i = [] := List.drop_eq_nil_of_le (by omega)
    rw [he, segsPre_end]
    simp only [grapnelref10_Split.l0, grapnelref10_Split.j2]
    rw [if_pos (by omega), if_neg (by omega), if_neg (by decide), if_pos (by omega), if_pos (by omega), if_pos (by omega), Int.toNat_natCast, Int.toNat_natCast, hname _ i a hi ha (by omega)]
    simp only [Option.bind_some]
    by_cases hn : nameE ((s.data.toList.drop a).take (i - a)) = 0
    · rw [if_pos hn, if_pos (by omega)]
      simp only [namesE, if_pos hn]
      rw [wrap_small (by omega) (by omega), if_neg (by omega)]
      exact ⟨_, rfl⟩
    · rw [if_neg hn]; simp only [namesE, if_neg hn]; exact ⟨_, rfl⟩
  | succ d ih =>
    intro k i a x4 hi ha hd hx hk
    obtain ⟨k, rfl⟩ : ∃ m, k = m + 2 := ⟨k - 2, by omega⟩
    have hl : i < s.size := by omega
    have hdr : s.data.toList.drop i = (s[i]'hl) :: s.data.toList.drop (i + 1) := by rw [List.drop_eq_getElem_cons (by omega)]; rfl
    simp only [grapnelref10_Split.l0, grapnelref10_Split.j2]
    rw [if_pos (by omega), if_pos (by omega), if_pos (by omega), bt_toNat s i hl, hdr]
    by_cases hc : s[i]'hl = 47
    · have hc' : (((s[i]'hl).toNat : Int) != 47) = false := by rw [hc]; rfl
      rw [hc', if_neg (by decide), if_pos (by omega), if_pos (by omega), if_pos (by omega), Int.toNat_natCast, Int.toNat_natCast, hname _ i a hi ha (by omega), hc, segsPre_slash]
      simp only [Option.bind_some]
      by_cases hn : nameE ((s.data.toList.drop a).take (i - a)) = 0
      · rw [if_pos hn, if_pos (by omega), wrap_small (by omega) (by omega), show ((i : Int) + 1) = ((i + 1 : Nat) : Int) by omega]
        obtain ⟨l, hh⟩ := ih k (i + 1) (i + 1) (x4 ++ [s.extract a i]) (by omega) (Nat.le_refl _) (by omega) (by simp; omega) (by omega)
        rw [Nat.sub_self, List.take_zero, segsPre_nil] at hh
        refine ⟨l, ?_⟩
        rw [hh]; simp only [namesE, if_pos hn]
      · rw [if_neg hn]; simp only [namesE, if_neg hn]; exact ⟨_, rfl⟩
    · have hc' : (((s[i]'hl).toNat : Int) != 47) = true := bne_iff_ne.mpr (fun e => hc (UInt8.toNat_inj.1 (by show (s[i]'hl).toNat = 47; omega)))
      rw [hc', if_pos rfl, wrap_small (by omega) (by omega), show ((i : Int) + 1) = ((i + 1 : Nat) : Int) by omega, segsPre_byte _ _ _ hc, ← cut_grow s a i hl ha]
      exact ih k (i + 1) a x4 (by omega) (by omega) (by omega) (by omega) (by omega)

theorem split_f (s : ByteArray) : ∃ k l, grapnelref10_Split.f k s = some (l, splitE s.data.toList) := by
  have sl := toList_size s
  refine ⟨2000, ?_⟩
  unfold grapnelref10_Split.f
  rw [ByteArray.toList_eq]
  by_cases h1 : 255 < s.size
  · rw [if_pos (by omega), splitE_long (by omega)]; exact ⟨_, rfl⟩
  · rw [if_neg (by omega)]
    by_cases h0 : s.data.toList = []
    · rw [if_pos h0, h0, splitE_nil]; exact ⟨[], rfl⟩
    · have hp : 0 < s.size := by rw [← sl]; exact List.length_pos_iff.mpr h0
      rw [if_neg h0, if_pos (by omega), show (bt s 0) = bt s ((0 : Nat) : Int) from rfl, bt_toNat s 0 hp]
      have hh : s.data.toList.head? = some (s[0]'hp) := by rw [List.head?_eq_getElem?, List.getElem?_eq_getElem (by omega)]; rfl
      by_cases hc : s[0]'hp = 47
      · have hc' : (((s[0]'hp).toNat : Int) != 47) = false := by rw [hc]; rfl
        rw [hc', show (2000 : Nat) = 1999 + 1 from rfl]
        simp only [grapnelref10_Split.j0]
        rw [if_neg (by decide)]
        by_cases h47 : s.data.toList = [47]
        · have : s.size = 1 := by rw [← sl, h47]; rfl
          rw [if_pos (by omega), h47, splitE_root]; exact ⟨_, rfl⟩
        · have hn1 : s.size ≠ 1 := by
            intro e
            apply h47
            cases hs : s.data.toList with
            | nil => exact absurd hs h0
            | cons b t =>
              rw [hs] at sl hh
              have ht : t = [] := List.length_eq_zero_iff.1 (by simp at sl; omega)
              simp at hh; rw [ht, hh, hc]
          rw [if_neg (by omega), splitE_rest (by omega) (by rw [hh, hc]) h47]
          obtain ⟨l, hl⟩ := split_tells s (by omega) (s.size - 1) 1999 1 1 [] (by omega) (Nat.le_refl _) rfl (by simp) (by omega)
          rw [Nat.sub_self, List.take_zero, segsPre_nil] at hl
          refine ⟨l, ?_⟩
          rw [show ((1 : Int)) = ((1 : Nat) : Int) from rfl, hl]
          congr 3
          cases hs : s.data.toList with
          | nil => exact absurd hs h0
          | cons b t => rfl
      · have hc' : (((s[0]'hp).toNat : Int) != 47) = true := bne_iff_ne.mpr (fun e => hc (UInt8.toNat_inj.1 (by show (s[0]'hp).toNat = 47; omega)))
        rw [hc', splitE_head (by omega) (by rw [hh]; simpa using hc)]; exact ⟨[], rfl⟩

theorem may_f (n : Nd) : ∃ k, grapnelref18_may.f k n.f0 n.f1.f0 n.f1.f1 n.f1.f2 n.f1.f3 n.f1.f4 n.f2 = some (mayN n) := by
  obtain ⟨k1, l1, h1⟩ := split_f n.f0
  obtain ⟨k2, l2, h2⟩ := split_f n.f2
  have m := fun a0 => grapnelref10_Split.mono a0
  have h1' := at_rounds (fun k => m n.f0 k) (Nat.le_max_left k1 k2) h1
  have h2' := at_rounds (fun k => m n.f2 k) (Nat.le_max_right k1 k2) h2
  have h1'' := at_rounds (fun k => m n.f0 k) (Nat.le_succ _) h1'
  have h2'' := at_rounds (fun k => m n.f2 k) (Nat.le_succ _) h2'
  refine ⟨max k1 k2 + 1, ?_⟩
  unfold grapnelref18_may.f
  rw [h1'', h2'']
  simp only [Option.bind_some, grapnelref18_may.j0]
  have sl := toList_size n.f2
  show _ = some (mayP (pth n) (dat n) (n.f1.f2))
  unfold mayP
  show _ = some (splitE n.f0.data.toList == 0 && (if n.f1.f2 = 2 then n.f2.data.toList == [] else if n.f1.f2 = 3 then splitE n.f2.data.toList == 0 else if n.f1.f2 = 1 then decide (n.f2.data.toList.length ≤ 5675264) else false))
  rw [ByteArray.toList_eq]
  by_cases e0 : splitE n.f0.data.toList = 0
  · rw [if_pos e0, e0]
    by_cases c1 : n.f1.f2 < 1
    · rw [if_pos c1, if_pos trivial, if_neg (by omega), if_neg (by omega), if_neg (by omega)]; rfl
    · rw [if_neg c1]
      by_cases c2 : n.f1.f2 > 3
      · rw [if_pos (by simpa using c2), if_neg (by omega), if_neg (by omega), if_neg (by omega)]; rfl
      · rw [if_neg (by simpa using c2)]
        by_cases c3 : n.f1.f2 = 2
        · rw [if_pos c3, if_pos c3]; rfl
        · rw [if_neg c3, if_neg c3]
          by_cases c4 : n.f1.f2 = 1
          · rw [if_pos c4, if_neg (by omega : ¬ n.f1.f2 = 3), if_pos c4, sl]
            by_cases c5 : (n.f2.size : Int) ≤ 5675264
            · rw [if_pos c5, decide_eq_true (by omega : n.f2.size ≤ 5675264), if_neg (by omega)]; rfl
            · rw [if_neg c5, if_neg (by omega), decide_eq_false (by omega : ¬ n.f2.size ≤ 5675264)]; rfl
          · rw [if_neg c4, if_pos (by omega), if_pos (by omega)]; rfl
  · rw [if_neg e0, if_pos trivial, beq_eq_false_iff_ne.mpr e0, Bool.false_and]
end Go.Proofs.YtiloadafnalhpaaDoor
