/-
  PLAIN LEAN: what a name and a path may be ('nameE', 'pathOK'), and how two paths stand ('ordL'). No program in sight.
  The walk of path.Name.
  PLAIN LEAN: a text's segments between slashes; strings.Split at a slash gives them.
-/
import Derived.Test.YtiloadafnalhpaaDoorPAx0
import Derived.Laws.RangeAny
import Derived.Lib.Walk
import Derived.Lib.RuneCount
import Derived.LoopTactic
import Derived.Lib.Hide
import Derived.Lib.SplitLaws
import Derived.Lib.Split
import Derived.Lib.IndexBytes
namespace Go.Proofs.YtiloadafnalhpaaDoor

/-- Is a byte one of a name's? -/
def okB (b : UInt8) : Bool := 33 ≤ b.toNat && b.toNat ≤ 126 && b.toNat != 47

/-- path.Name's error. -/
def nameE (l : List UInt8) : Int :=
  if 19 < l.length then 4 else if l = [] ∨ l = [46] ∨ l = [46, 46] then 40 else if l.all okB then 0 else 40

theorem nameE_long {l : List UInt8} (h : 19 < l.length) : nameE l = 4 := by simp [nameE, h]
theorem nameE_dots {l : List UInt8} (h : l.length ≤ 19) (hd : l = [] ∨ l = [46] ∨ l = [46, 46]) : nameE l = 40 := by
  unfold nameE; rw [if_neg (by omega), if_pos hd]
theorem nameE_rest {l : List UInt8} (h : l.length ≤ 19) (hd : ¬ (l = [] ∨ l = [46] ∨ l = [46, 46])) : nameE l = if l.all okB then 0 else 40 := by
  unfold nameE; rw [if_neg (by omega), if_neg hd]

end Go.Proofs.YtiloadafnalhpaaDoor
namespace Go.Proofs.YtiloadafnalhpaaDoor
open Go.RowKit Go.Proofs.YtiloadafnalhpaaDoorW.PrintWords Go.Proofs.YtiloadafnalhpaaDoorW.PrintLast Go.Proofs.YtiloadafnalhpaaDoorW.PrintMore
set_option linter.unusedVariables false
set_option linter.unusedSimpArgs false

theorem below_iter {B : Nat} {w W : World} (h : Below B w W) (hB : B ≤ W.heap.size) (s : ByteArray) (p : Nat) : Below B w (W.iter s p) :=
  h.alloc hB _

theorem toList_size (s : ByteArray) : s.data.toList.length = s.size := by simp

theorem okB_iff (b : UInt8) : okB b = true ↔ 33 ≤ b.toNat ∧ b.toNat ≤ 126 ∧ b.toNat ≠ 47 := by
  unfold okB; simp [and_assoc]
theorem drop_okB (s : ByteArray) (pos : Nat) (h : pos < s.size) : (s.data.toList.drop pos).all okB = (okB (s[pos]'h) && (s.data.toList.drop (pos + 1)).all okB) := by
  rw [List.drop_eq_getElem_cons (by simpa using h), List.all_cons]
  rfl
/-- What a name's byte decodes to, and what another does. -/
theorem decode_okB (s : ByteArray) (pos : Nat) (h : pos < s.size) :
    (okB (s[pos]'h) = true → 33 ≤ (Utf8.decode s pos).1 ∧ (Utf8.decode s pos).1 ≤ 126 ∧ (Utf8.decode s pos).1 ≠ 47 ∧ (Utf8.decode s pos).2 = 1) ∧
    (okB (s[pos]'h) = false → (Utf8.decode s pos).1 < 33 ∨ 126 < (Utf8.decode s pos).1 ∨ (Utf8.decode s pos).1 = 47) := by
  by_cases ha : (s[pos]'h).toNat < 128
  · have hd : Utf8.decode s pos = ((s[pos]'h).toNat, 1) := by
      simp only [Utf8.decode, get_at s pos h, ha, if_true]
    rw [hd]
    refine ⟨fun hk => ?_, fun hk => ?_⟩
    · obtain ⟨a, b, c⟩ := (okB_iff _).1 hk; exact ⟨a, b, c, rfl⟩
    · have : ¬ (33 ≤ (s[pos]'h).toNat ∧ (s[pos]'h).toNat ≤ 126 ∧ (s[pos]'h).toNat ≠ 47) := fun hh => by rw [(okB_iff _).2 hh] at hk; cases hk
      show (s[pos]'h).toNat < 33 ∨ 126 < (s[pos]'h).toNat ∨ (s[pos]'h).toNat = 47
      omega
  · have hd := decode_high s pos h (by omega)
    refine ⟨fun hk => ?_, fun hk => ?_⟩
    · obtain ⟨a, b, c⟩ := (okB_iff _).1 hk; omega
    · omega

set_option maxHeartbeats 4000000 in
set_option maxRecDepth 100000 in
theorem name_calls (s : ByteArray) (w : World) (hs : s.size ≤ 9223372036854775807) :
    Calls Tryd.prog 34 #[.string s] w fun e w' => e = .returned (.int .i64 (nameE s.data.toList)) ∧ Below w.heap.size w w' := by
  have hlen := toList_size s
  by_cases h19 : 19 < s.size
  · rw [nameE_long (by omega)]
    clear hlen
    go_enter Tryd.func34, Tryd.ntmps34
    go_wp2
    go_ret
    exact ⟨rfl, Below.refl _ _⟩
  · have tl : s.toList = s.data.toList := ByteArray.toList_eq s
    by_cases h0 : s.data.toList = []
    · rw [nameE_dots (by omega) (.inl h0)]
      have e0' : (!s.toList.isEmpty) = false := by rw [tl, h0]; rfl
      have e0 : s.toList = [] := tl.trans h0
      clear tl h0 hlen
      go_enter Tryd.func34, Tryd.ntmps34
      go_wp2
      go_ret
      exact ⟨rfl, Below.refl _ _⟩
    · have e0' : (!s.toList.isEmpty) = true := by rw [tl]; cases h : s.data.toList <;> simp_all
      have e0 : (s.toList == ([] : List UInt8)) = false := by rw [tl]; exact beq_eq_false_iff_ne.mpr h0
      by_cases h1 : s.data.toList = [46]
      · rw [nameE_dots (by omega) (.inr (.inl h1))]
        have e1 : (s.toList == ([46] : List UInt8)) = true := by rw [tl, h1]; rfl
        clear tl h0 h1 hlen
        go_enter Tryd.func34, Tryd.ntmps34
        go_wp2
        go_ret
        exact ⟨rfl, Below.refl _ _⟩
      · have e1 : (s.toList == ([46] : List UInt8)) = false := by rw [tl]; exact beq_eq_false_iff_ne.mpr h1
        by_cases h2 : s.data.toList = [46, 46]
        · rw [nameE_dots (by omega) (.inr (.inr h2))]
          have e2 : (s.toList == ([46, 46] : List UInt8)) = true := by rw [tl, h2]; rfl
          clear tl h0 h1 h2 hlen
          go_enter Tryd.func34, Tryd.ntmps34
          go_wp2
          go_ret
          exact ⟨rfl, Below.refl _ _⟩
        · have e2 : (s.toList == ([46, 46] : List UInt8)) = false := by rw [tl]; exact beq_eq_false_iff_ne.mpr h2
          rw [nameE_rest (by omega) (by simp [h0, h1, h2])]
          clear tl h0 h1 h2
          have HL := Lib.hid hlen; clear hlen
          obtain ⟨r, HR⟩ : ∃ r : Int, Aside0 ((if s.data.toList.all okB = true then (0 : Int) else 40) = r) := ⟨_, ⟨rfl⟩⟩
          rw [HR.out]
          go_enter Tryd.func34, Tryd.ntmps34
          go_wp2
          go_loopw [4] (fun _ w' => ∃ pos : Nat, w' = w.iter s pos ∧ Aside0 (pos ≤ s.size ∧ (s.data.toList.drop pos).all okB = s.data.toList.all okB)) (fun _ w' => s.size - w'.iterPos w.heap.size)
          case atStart => exact ⟨0, rfl, ⟨Nat.zero_le _, by simp⟩⟩
          case round =>
            obtain ⟨pos, rfl, HP⟩ := hrel
            by_cases hp : pos < s.size
            · have hnx : ∀ ty, (Instr.next (.pointer (some ⟨w.heap.size, 0, none⟩)) true ty).run Tryd.prog (w.iter s pos) = _ := fun ty => run_next_any w s pos ty hp
              have hd := decode_okB s pos hp
              by_cases hok : okB (s[pos]'hp) = true
              · obtain ⟨d1, d2, d3, d4⟩ := hd.1 hok
                have d4' : (((Utf8.decode s pos).1 : Int) == 47) = false := beq_eq_false_iff_ne.mpr (by omega)
                have HN : Aside0 (pos + 1 ≤ s.size ∧ (s.data.toList.drop (pos + 1)).all okB = s.data.toList.all okB) := by
                  refine ⟨by omega, ?_⟩
                  rw [← HP.out.2, drop_okB s pos hp, hok, Bool.true_and]
                clear hok hd
                obtain ⟨d, dw, hdd⟩ : ∃ d dw, Utf8.decode s pos = (d, dw) := ⟨_, _, rfl⟩
                rw [hdd] at hnx d1 d2 d3 d4 d4'
                simp only at hnx d1 d2 d3 d4 d4'
                clear hdd
                subst d4
                go_wp2
                go_roundw
                case rel => exact ⟨pos + 1, rfl, HN⟩
                case measure => simp; omega
              · have hok' : okB (s[pos]'hp) = false := by simpa using hok
                have hd2 := hd.2 hok'
                have HF : (if s.data.toList.all okB = true then (0 : Int) else 40) = 40 := by
                  rw [← HP.out.2, drop_okB s pos hp, hok', Bool.false_and]; rfl
                obtain rfl : r = 40 := HR.out.symm.trans HF
                clear hok hok' hd HF
                obtain ⟨d, dw, hdd⟩ : ∃ d dw, Utf8.decode s pos = (d, dw) := ⟨_, _, rfl⟩
                rw [hdd] at hnx hd2
                simp only at hnx hd2
                clear hdd
                rcases hd2 with h | h | h
                · have h' : (d : Int) < 33 := by omega
                  clear h
                  go_wp2
                  go_ret
                  exact ⟨rfl, (Below.refl _ _).alloc (Nat.le_refl _) _⟩
                · have h' : 126 < (d : Int) := by omega
                  clear h
                  go_wp2
                  go_ret
                  exact ⟨rfl, (Below.refl _ _).alloc (Nat.le_refl _) _⟩
                · have h' : ((d : Int) == 47) = true := beq_iff_eq.mpr (by omega)
                  have h1 : 33 ≤ (d : Int) := by omega
                  have h2 : (d : Int) ≤ 126 := by omega
                  clear h
                  go_wp2
                  go_ret
                  exact ⟨rfl, (Below.refl _ _).alloc (Nat.le_refl _) _⟩
            · have hnx : ∀ ty, (Instr.next (.pointer (some ⟨w.heap.size, 0, none⟩)) true ty).run Tryd.prog (w.iter s pos) = _ := fun ty => run_next_end w s pos ty hp
              have HF : (if s.data.toList.all okB = true then (0 : Int) else 40) = 0 := by
                have e : s.data.toList.drop pos = [] := List.drop_eq_nil_of_le (by have := HL.out; omega)
                rw [← HP.out.2, e]; rfl
              obtain rfl : r = 0 := HR.out.symm.trans HF
              clear HF
              go_wp2
              go_ret
              exact ⟨rfl, (Below.refl _ _).alloc (Nat.le_refl _) _⟩
end Go.Proofs.YtiloadafnalhpaaDoor
namespace Go.Proofs.YtiloadafnalhpaaDoor
open Go.Lib

def segs : List UInt8 → List (List UInt8)
  | [] => [[]]
  | b :: l => if b = 47 then [] :: segs l else (b :: (segs l).head!) :: (segs l).tail

theorem segs_ne : ∀ l, segs l ≠ []
  | [] => by simp [segs]
  | b :: l => by unfold segs; split <;> simp

theorem segs_le : ∀ (l : List UInt8), ∀ x ∈ segs l, x.length ≤ l.length
  | [], x, h => by simp [segs] at h; simp [h]
  | b :: l, x, h => by
    have ih := segs_le l
    unfold segs at h
    split at h
    · rcases List.mem_cons.1 h with rfl | h
      · simp
      · have := ih x h; simp; omega
    · obtain ⟨y, t, hs⟩ : ∃ y t, segs l = y :: t := List.exists_cons_of_ne_nil (segs_ne l)
      rw [hs] at h ih
      rcases List.mem_cons.1 h with rfl | h
      · have := ih y (by simp); simp only [List.length_cons]; show y.length + 1 ≤ _; omega
      · have := ih x (List.mem_cons_of_mem _ h); simp; omega

theorem splitK_segs : ∀ l : List UInt8, splitK [47] 0 (l.count 47) l = segs l
  | [] => rfl
  | b :: l => by
    by_cases hb : b = 47
    · subst hb
      have hc : (47 :: l : List UInt8).count 47 = l.count 47 + 1 := by simp
      have hi : index (47 :: l) [47] = 0 := by rw [index_one]; simp [indexByte]
      rw [hc, splitK, hi, if_neg (by decide)]
      simp only [Int.toNat_zero, Nat.zero_add, List.take_zero, List.length_singleton, List.drop_succ_cons, List.drop_zero]
      rw [splitK_segs l, segs, if_pos rfl]
    · have hc : (b :: l : List UInt8).count 47 = l.count 47 := by rw [List.count_cons]; simp [hb]
      have hn := splitK_segs l
      rw [hc, segs, if_neg hb, ← hn]
      cases hk : l.count 47 with
      | zero => simp [splitK]; rfl
      | succ k =>
        have hbe : (b == 47) = false := by simpa using hb
        by_cases hm : indexByte l 47 = -1
        · have hi : index (b :: l) [47] = -1 := by rw [index_one]; simp [indexByte, hbe, hm]
          have hi2 : index l [47] = -1 := by rw [index_one]; exact hm
          rw [splitK, splitK, hi, hi2]
          simp; rfl
        · have hge := indexByte_ge l 47
          obtain ⟨j, hj⟩ : ∃ j : Nat, indexByte l 47 = j := ⟨(indexByte l 47).toNat, by omega⟩
          have hi : index (b :: l) [47] = ((j + 1 : Nat) : Int) := by
            rw [index_one, indexByte, if_neg (by simp [hbe]), if_neg (by simpa using hm), hj]; rfl
          have hi2 : index l [47] = (j : Int) := by rw [index_one]; exact hj
          rw [splitK, splitK, hi, hi2, if_neg (by simp; omega), if_neg (by simp)]
          simp only [Int.toNat_natCast, Nat.add_zero, List.length_singleton, List.tail_cons, List.take_succ_cons, List.drop_succ_cons]
          rfl

theorem splitB_segs (s : ByteArray) : (splitB ⟨#[47]⟩ 0 (countB s ⟨#[47]⟩) s).map (·.data.toList) = segs s.data.toList := by
  rw [splitB_data]
  have : countB s ⟨#[47]⟩ = s.data.toList.count 47 := count_one 47 s.data.toList
  rw [this]
  exact splitK_segs s.data.toList

theorem splitB_count (s : ByteArray) : (splitB ⟨#[47]⟩ 0 (countB s ⟨#[47]⟩) s).length = countB s ⟨#[47]⟩ + 1 := splitB_all _ (by decide) 0 _ s rfl

/-- The first error of names; 0: there is none. -/
def namesE : List (List UInt8) → Int
  | [] => 0
  | x :: l => if nameE x = 0 then namesE l else nameE x

theorem namesE_drop {L : List (List UInt8)} {k : Nat} (h : k < L.length) : namesE (L.drop k) = if nameE (L[k]'h) = 0 then namesE (L.drop (k + 1)) else nameE (L[k]'h) := by
  rw [List.drop_eq_getElem_cons h]; rfl

/-- path.Split's error. -/
def splitE (l : List UInt8) : Int :=
  if 255 < l.length then 4 else if l = [] then 40 else if l.head? ≠ some 47 then 40 else if l = [47] then 0 else namesE (segs l.tail)

def pathOK (l : List UInt8) : Bool := splitE l == 0
end Go.Proofs.YtiloadafnalhpaaDoor
