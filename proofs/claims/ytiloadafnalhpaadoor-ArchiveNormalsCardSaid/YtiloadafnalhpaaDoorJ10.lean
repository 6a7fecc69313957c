/-
  The walk of pack's Put: a number as so many bytes.
  The walk of pack.Put.
  The walk of pack's cursor.take, where the bytes are there.
  The deferred closure of pack.Get, where nothing panicked.
  The walk of pack.Get, where the bytes are there.
-/
import Derived.Test.YtiloadafnalhpaaDoorJ9
import Derived.Deep.RegionLaw
import Derived.Deep.AppendLies
import Derived.Deep.RegionHeld3
import Derived.Defers
import Derived.Recover
namespace Go.Proofs.YtiloadafnalhpaaDoor
open Go.RowKit Go.Proofs.YtiloadafnalhpaaDoorW.PrintWords Go.Proofs.YtiloadafnalhpaaDoorW.PrintLast Go.Proofs.YtiloadafnalhpaaDoorW.PrintMore
open Go.Proofs.YtiloadafnalhpaaDoor.PA
set_option linter.unusedVariables false
set_option linter.unusedSimpArgs false

theorem infoB : (Tryd.prog.info? 5).map (fun i => (i.zero, i.size, i.bytes)) = some (some (.int .u8 0), 1, 1) := by kernel_rfl
/-- A number's bytes, the lowest first. -/
def leV (n wd : Nat) : List Value := (List.range wd).map fun i => .int .u8 ((n / 256 ^ i % 256 : Nat) : Int)
theorem leV_length (n wd : Nat) : (leV n wd).length = wd := by simp [leV]
theorem leV_snoc (n i : Nat) : leV n (i + 1) = leV n i ++ [.int .u8 ((n / 256 ^ i % 256 : Nat) : Int)] := by simp [leV, List.range_succ]

theorem own_other {w w' : World} {base : Nat} {e : TypeId} {size : Nat} {v : Value} {n : Nat} {xs : List Value} (h : w.ownsRow base e size v n xs) (hk : ∀ k, base ≤ k → w'.heap[k]? = w.heap[k]?) : w'.ownsRow base e size v n xs := by
  refine ⟨h.1, ?_⟩
  rcases h.2 with h2 | ⟨g, cap, cur, e1, e2, e3, r⟩
  · exact .inl h2
  · exact .inr ⟨g, cap, cur, e1, e2, (hk g e2).trans e3, r⟩
theorem byte_eq (n i : Nat) : IntKind.u8.wrap ((n : Int) / 2 ^ (8 * (i : Int)).toNat) = ((n / 256 ^ i % 256 : Nat) : Int) := by
  rw [show (8 * (i : Int)).toNat = 8 * i by omega, IntKind.wrap_u8', show ((2 : Int) ^ (8 * i)) = ((256 ^ i : Nat) : Int) by rw [Int.natCast_pow, Int.pow_mul]; rfl, Int.natCast_emod, Int.natCast_ediv]; rfl
set_option maxHeartbeats 16000000 in
set_option maxRecDepth 100000 in
theorem wput_calls (b : Nat) (n wd : Nat) (w : World) (hw1 : 1 ≤ wd) (hw6 : wd ≤ 6) (hn : n < 256 ^ wd) (hn6 : n < 281474976710656) (hb : w.heap[b]? = some (.cells #[.slice none 0 0, .bool false] 107 (0, 0))) :
    Calls Tryd.prog 69 #[.pointer (some ⟨b, 0, none⟩), .int .i64 n, .int .i64 wd] w fun e w' => e = .returned (.tuple #[]) ∧ ∃ v, w'.heap[b]? = some (.cells #[v, .bool false] 107 (0, 0)) ∧ w'.ownsRow (b + 1) 5 1 v wd (leV n wd) ∧ Below b w w' := by
  have hbl : b < w.heap.size := (Array.getElem?_eq_some_iff.1 hb).1
  have hz : n / 2 ^ (8 * wd) = 0 := Nat.div_eq_of_lt (by rw [Nat.pow_mul]; exact hn)
  have hz1 : (((n : Int) / 2 ^ (8 * wd)) != 0) = false := by
    rw [bne_eq_false_iff_eq, show ((2 : Int) ^ (8 * wd)) = ((2 ^ (8 * wd) : Nat) : Int) by simp, ← Int.natCast_ediv, hz]; rfl
  have HB := Aside0.mk hb
  clear hb hz hn
  obtain ⟨i0, hi, hi0, hi1, hi2⟩ := info_parts infoB
  go_enter Tryd.func69, Tryd.ntmps69
  go_wp2
  go_loopw [20] (fun v20 wr => ∃ (i : Nat) (v : Value), v20 = .int .i64 i ∧ i ≤ wd ∧ Aside0 (wr.heap[b]? = some (.cells #[v, .bool false] 107 (0, 0))) ∧ Aside0 (wr.ownsRow (b + 1) 5 1 v i (leV n i)) ∧ Aside0 (Below b w wr)) (fun v20 _ => wd - (intOf v20).toNat)
  case atStart => exact ⟨0, _, rfl, Nat.zero_le _, HB, ⟨own_nil _ _ _ _⟩, ⟨Below.refl _ _⟩⟩
  case round =>
    obtain ⟨i, v, rfl, hiw, HBL, HO, HBe⟩ := hrel
    by_cases h1 : i < wd
    · have hc0 : wr.cell? ⟨b, 0, none⟩ = some v := by rw [blk_cell HBL.out]; rfl
      have hf0 : wr.frozen? ⟨b, 0, none⟩ = false := blk_frozen HBL.out 0
      have hmul : IntKind.i64.wrap (8 * (i : Int)) = 8 * (i : Int) := IntWalk.i64_in _ (by omega)
      have h80 : (0 : Int) ≤ 8 * (i : Int) := by omega
      have h81 : 8 * (i : Int) < 64 := by omega
      have ag : v.ownBlock ≠ some b := fun e => by have := own_base HO.out b e; omega
      have hszr : b < wr.heap.size := (Array.getElem?_eq_some_iff.1 HBL.out).1
      go_wp2
      go_region_law
        ((refine step_append_lies _ (by rfl) _ _ _ (by rfl) (b + 1) 5 i0 _ 1 1 Tryd.underlying55 hi hi0 hi1 hi2 rfl (by omega) v i (leV n i) (by rfl) ((HO.out.alloc _).drew)
            ⟨wr.heap.size, 0, none⟩ 1 1 [.int .u8 (IntKind.u8.wrap ((n : Int) / 2 ^ (8 * (i : Int)).toNat))] (by rfl) (by rfl) (World.news_of_block (cs := #[.int .u8 (IntKind.u8.wrap ((n : Int) / 2 ^ (8 * (i : Int)).toNat))]) (t := 5) (fr := (0, 0)) (heap_alloc_new wr _)) (by simp [Value.oneCell'])
            (by omega) (by unfold maxLen; omega) (by omega) (by simp; omega) (wr.heap.size + 1) (by simp) ?_; intro gg cap w1 hown1 hgrow hat hlt; have hcz : w1.cell? ⟨b, 0, none⟩ = some v := (hgrow.cell_far ⟨b, 0, none⟩ (by simp; omega) (Ne.symm ag)).trans ((blk_cell (w := wr.alloc _) ((((Below.refl wr.heap.size wr).alloc (Nat.le_refl _) _).block b hszr).trans HBL.out) 0).trans rfl); have hfz : w1.frozen? ⟨b, 0, none⟩ = false := (hgrow.frozen_far ⟨b, 0, none⟩ (by simp; omega) (Ne.symm ag)).trans (blk_frozen (w := wr.alloc _) ((((Below.refl wr.heap.size wr).alloc (Nat.le_refl _) _).block b hszr).trans HBL.out) 0)))
      all_goals
        have hB1 : w1.heap[b]? = some (.cells #[v, .bool false] 107 (0, 0)) := (hgrow.block b (by simp; omega) (Ne.symm ag)).trans ((((Below.refl wr.heap.size wr).alloc (Nat.le_refl _) _).block b hszr).trans HBL.out)
        have HB2 := Aside0.mk (blk_set hB1 0 (.slice (some ⟨gg, 0, none⟩) (i + 1) cap))
        have HO2 : Aside0 ((w1.setCell ⟨b, 0, none⟩ (.slice (some ⟨gg, 0, none⟩) (i + 1) cap)).ownsRow (b + 1) 5 1 (.slice (some ⟨gg, 0, none⟩) (i + 1) cap) (i + 1) (leV n (i + 1))) := ⟨by
          rw [leV_snoc, ← byte_eq]
          exact own_other hown1 (fun k hk => Below.heap_setCell _ _ _ _ (by show k ≠ b; omega))⟩
        have HE2 : Aside0 (Below b w (w1.setCell ⟨b, 0, none⟩ (.slice (some ⟨gg, 0, none⟩) (i + 1) cap))) := ⟨((pw_below_drewN (HBe.out.alloc (by omega) _) 1).grown hgrow (by simp; omega) (fun k hk => by have := own_base HO.out k hk; omega)).setCell (p := ⟨b, 0, none⟩) (Nat.le_refl _) _⟩
        clear hB1 hcz hfz hown1 hgrow
        go_wp2
        go_roundw
        · exact ⟨i + 1, _, by go_num, by omega, HB2, HO2, HE2⟩
        · simp [intOf]; omega
    · obtain rfl : i = wd := by omega
      go_wp2
      go_end0
      exact ⟨rfl, v, HBL.out, HO.out, HBe.out⟩
end Go.Proofs.YtiloadafnalhpaaDoor
namespace Go.Proofs.YtiloadafnalhpaaDoor
open Go.RowKit Go.Proofs.YtiloadafnalhpaaDoorW.PrintWords Go.Proofs.YtiloadafnalhpaaDoorW.PrintLast Go.Proofs.YtiloadafnalhpaaDoorW.PrintMore
open Go.Proofs.YtiloadafnalhpaaDoor.PA
set_option linter.unusedVariables false
set_option linter.unusedSimpArgs false

/-- A number's bytes, the lowest first. -/
def leB (n wd : Nat) : List UInt8 := (List.range wd).map fun i => UInt8.ofNat (n / 256 ^ i % 256)
def leS (n wd : Nat) : ByteArray := ⟨(leB n wd).toArray⟩

theorem own_bytes {w : World} {base n : Nat} {v : Value} {l : List UInt8} (h : w.ownsRow base 5 1 v n (l.map fun b => Value.int .u8 (b.toNat : Int))) (hn : 0 < n) : ∃ g cap, v = .slice (some ⟨g, 0, none⟩) n cap ∧ base ≤ g ∧ l.length = n ∧ (convert 55 9 v).run Tryd.prog w = .ok (.string ⟨l.toArray⟩) w := by
  have hl : l.length = n := by have := h.1; simpa using this
  rcases h.2 with ⟨_, e⟩ | ⟨g, cap, cur, e1, e2, e3, e4, e5, e6, e7⟩
  · omega
  · refine ⟨g, cap, e1, e2, hl, ?_⟩
    rw [e1, ← hl]
    refine run_convert_bytes_back w 55 9 5 ⟨g, 0, none⟩ cap l Tryd.underlying55 Tryd.underlying5 Tryd.underlying9 fun j hj => ?_
    rw [add_plain, blk_cell e3, ← Array.getElem?_toList]
    have : (cur.toList.take (n * 1))[j]? = some (.int .u8 (l[j].toNat : Int)) := by rw [e7, List.getElem?_map, List.getElem?_eq_getElem hj]; rfl
    rw [List.getElem?_take, if_pos (by omega)] at this
    exact this
theorem leV_eq (n wd : Nat) : leV n wd = (leB n wd).map fun b => Value.int .u8 (b.toNat : Int) := by
  unfold leV leB
  rw [List.map_map]
  refine List.map_congr_left fun i _ => ?_
  simp only [Function.comp]
  rw [UInt8.toNat_ofNat_of_lt' (Nat.mod_lt _ (by decide))]
set_option maxHeartbeats 16000000 in
set_option maxRecDepth 100000 in
theorem put_calls (n wd : Nat) (w : World) (hw1 : 1 ≤ wd) (hw6 : wd ≤ 6) (hn : n < 256 ^ wd) (hn6 : n < 281474976710656) :
    Calls Tryd.prog 49 #[.int .i64 n, .int .i64 wd] w fun e w' => e = .returned (.tuple #[.string (leS n wd), .int .i64 0]) ∧ Below w.heap.size w w' := by
  have hwp := fun W hb => wput_calls w.heap.size n wd W hw1 hw6 hn hn6 hb
  have HWP := Aside0.mk hwp
  clear hwp hn
  go_enter Tryd.func49, Tryd.ntmps49
  go_wp2_with (first
    | (go_at_call 69; refine (HWP.out _ (blk_new _ _)).mono ?_; rintro e w1 ⟨rfl, v, hb1, ho1, he1⟩; rw [leV_eq] at ho1; obtain ⟨g, cap, rfl, hbg, hll, hconv⟩ := own_bytes ho1 (by omega); have HB1 := Aside0.mk hb1; have HO1 := Aside0.mk ho1; have HE1 := Aside0.mk he1; have hc0 : w1.cell? ⟨w.heap.size, 0, none⟩ = some (.slice (some ⟨g, 0, none⟩) wd cap) := (blk_cell hb1 0).trans rfl; have hc1 : w1.cell? ⟨w.heap.size, 1, none⟩ = some (.bool false) := (blk_cell hb1 1).trans rfl; clear hb1 ho1 he1 hll hbg))
  go_ret2
  exact ⟨rfl, ((Below.refl w.heap.size w).alloc (Nat.le_refl _) _).trans HE1.out⟩
end Go.Proofs.YtiloadafnalhpaaDoor
namespace Go.Proofs.YtiloadafnalhpaaDoor
open Go.RowKit Go.Proofs.YtiloadafnalhpaaDoorW.PrintWords Go.Proofs.YtiloadafnalhpaaDoorW.PrintLast Go.Proofs.YtiloadafnalhpaaDoorW.PrintMore
open Go.Proofs.YtiloadafnalhpaaDoor.PA
set_option linter.unusedVariables false
set_option linter.unusedSimpArgs false

/-- The number that stands at a place: its lowest bytes. -/
def numAt (s : ByteArray) (at_ : Nat) : Nat → Nat
  | 0 => 0
  | i + 1 => numAt s at_ i + (s.get! (at_ + i)).toNat * 256 ^ i
theorem numAt_lt (s : ByteArray) (at_ : Nat) : ∀ i, numAt s at_ i < 256 ^ i
  | 0 => by simp [numAt]
  | i + 1 => by
    have ih := numAt_lt s at_ i
    have hb : (s.get! (at_ + i)).toNat ≤ 255 := by have := (s.get! (at_ + i)).toNat_lt; omega
    have h2 : (s.get! (at_ + i)).toNat * 256 ^ i ≤ 255 * 256 ^ i := Nat.mul_le_mul_right _ hb
    unfold numAt
    rw [Nat.pow_succ]; omega
theorem or_sum (a c i : Nat) (ha : a < 256 ^ i) (hs : a + c * 256 ^ i < 9223372036854775808) : Go.bits .or .i64 (a : Int) ((c * 256 ^ i : Nat) : Int) = ((a + c * 256 ^ i : Nat) : Int) := by
  have h1 : a ||| c * 256 ^ i = a + c * 256 ^ i := by
    have e : c * 256 ^ i = c <<< (8 * i) := by rw [Nat.shiftLeft_eq, Nat.pow_mul]
    rw [e, Nat.or_comm, ← Nat.shiftLeft_add_eq_or_of_lt (by rw [Nat.pow_mul]; exact ha), Nat.add_comm]
  unfold Go.bits
  show IntKind.i64.wrap ((BitVec.ofInt 64 (a : Int) ||| BitVec.ofInt 64 ((c * 256 ^ i : Nat) : Int)).toNat : Int) = _
  rw [BitVec.toNat_or, BitVec.ofInt_natCast, BitVec.ofInt_natCast, BitVec.toNat_ofNat, BitVec.toNat_ofNat, Nat.mod_eq_of_lt (by omega), Nat.mod_eq_of_lt (by omega), h1]
  exact IntWalk.i64_in _ (by omega)
theorem num_step (s : ByteArray) (at_ i : Nat) (h : at_ + i < s.size) (hi : i < 6) : Go.bits .or .i64 (numAt s at_ i : Int) (wrap64 (wrap64 ((s[at_ + i]'h).toNat : Int) * 2 ^ (8 * i))) = (numAt s at_ (i + 1) : Int) := by
  have hb : (s[at_ + i]'h).toNat ≤ 255 := by have := (s[at_ + i]'h).toNat_lt; omega
  have he : s.get! (at_ + i) = s[at_ + i]'h := by
    unfold ByteArray.get!
    show s.data[at_ + i]! = s.data[at_ + i]
    exact getElem!_pos s.data (at_ + i) h
  have hn := numAt_lt s at_ i
  have hp : 256 ^ i ≤ 256 ^ 5 := Nat.pow_le_pow_right (by decide) (by omega)
  have hm : (s[at_ + i]'h).toNat * 256 ^ i ≤ 255 * 256 ^ i := Nat.mul_le_mul_right _ hb
  have h5 : (256 : Nat) ^ 5 = 1099511627776 := by decide
  have e2 : ((2 : Int) ^ (8 * i)) = ((256 ^ i : Nat) : Int) := by rw [Int.natCast_pow, Int.pow_mul]; rfl
  have ew : wrap64 ((s[at_ + i]'h).toNat : Int) = ((s[at_ + i]'h).toNat : Int) := wrap_small (by omega) (by omega)
  rw [ew, e2, ← Int.natCast_mul, wrap_small (by omega) (by omega), or_sum _ _ _ hn (by omega)]
  show _ = ((numAt s at_ i + (s.get! (at_ + i)).toNat * 256 ^ i : Nat) : Int)
  rw [he]
set_option maxHeartbeats 16000000 in
set_option maxRecDepth 100000 in
theorem take_calls (b : Nat) (s : ByteArray) (at_ wd : Nat) (w : World) (hw6 : wd ≤ 6) (ha : at_ + wd ≤ s.size) (hs : s.size ≤ 100000000) (hb : w.heap[b]? = some (.cells #[.string s, .int .i64 at_] 132 (0, 0))) :
    Calls Tryd.prog 86 #[.pointer (some ⟨b, 0, none⟩), .int .i64 wd] w fun e w' => e = .returned (.int .i64 (numAt s at_ wd)) ∧ w'.heap[b]? = some (.cells #[.string s, .int .i64 ((at_ + wd : Nat) : Int)] 132 (0, 0)) ∧ Below b w w' := by
  have c0 : w.cell? ⟨b, 0, none⟩ = some (.string s) := (blk_cell hb 0).trans rfl
  have c1 : w.cell? ⟨b, 1, none⟩ = some (.int .i64 at_) := (blk_cell hb 1).trans rfl
  have hd : decide ((s.size : Int) - (at_ : Int) < (wd : Int)) = false := decide_eq_false (by omega)
  have hbl : b < w.heap.size := (Array.getElem?_eq_some_iff.1 hb).1
  have hf1 : w.frozen? ⟨b, 1, none⟩ = false := blk_frozen hb 1
  have HB := Aside0.mk hb
  clear hb
  go_enter Tryd.func86, Tryd.ntmps86
  go_wp2
  go_quiet (fail)
  go_wp2
  go_loopw [5, 22] (fun v5 v22 wr => ∃ i : Nat, v5 = .int .i64 (numAt s at_ i) ∧ v22 = .int .i64 i ∧ i ≤ wd ∧ Aside0 (∃ n, wr = w.drewN n)) (fun _ v22 _ => wd - (intOf v22).toNat)
  case atStart => exact ⟨0, rfl, rfl, Nat.zero_le _, ⟨_, rfl⟩⟩
  case round =>
    obtain ⟨i, rfl, rfl, hi, HW⟩ := hrel
    obtain ⟨n, hw⟩ := HW.out
    subst hw
    by_cases h1 : i < wd
    · have hmul : IntKind.i64.wrap (8 * (i : Int)) = 8 * (i : Int) := IntWalk.i64_in _ (by omega)
      have h80 : (0 : Int) ≤ 8 * (i : Int) := by omega
      have h81 : 8 * (i : Int) < 64 := by omega
      have hadd : IntKind.i64.wrap ((at_ : Int) + (i : Int)) = (at_ : Int) + (i : Int) := IntWalk.i64_in _ (by omega)
      have ha0 : (0 : Int) ≤ (at_ : Int) + (i : Int) := by omega
      have ha1 : (at_ : Int) + (i : Int) < (s.size : Int) := by omega
      go_wp2
      go_quiet (fail)
      go_wp2
      go_roundw
      case rel => exact ⟨i + 1, congrArg _ (num_step s at_ i (by omega) (by omega)), by go_num, by omega, ⟨_, rfl⟩⟩
      case measure => simp [intOf]; omega
    · obtain rfl : i = wd := by omega
      have hadd : IntKind.i64.wrap ((at_ : Int) + (i : Int)) = (at_ : Int) + (i : Int) := IntWalk.i64_in _ (by omega)
      go_wp2
      go_ret
      refine ⟨rfl, ?_, ?_⟩
      · refine (blk_set (w := w.drewN _) (by exact HB.out) 1 _).trans ?_
        simp
      · exact (pw_below_drewN (Below.refl b w) _).setCell (p := ⟨b, 1, none⟩) (Nat.le_refl _) _
end Go.Proofs.YtiloadafnalhpaaDoor
namespace Go.Proofs.YtiloadafnalhpaaDoor
open Go.RowKit Go.Proofs.YtiloadafnalhpaaDoorW.PrintWords Go.Proofs.YtiloadafnalhpaaDoorW.PrintLast Go.Proofs.YtiloadafnalhpaaDoorW.PrintMore
open Go.Proofs.YtiloadafnalhpaaDoor.PA
set_option linter.unusedVariables false
set_option linter.unusedSimpArgs false

set_option maxHeartbeats 16000000 in
set_option maxRecDepth 100000 in
theorem gave_nil (w : World) : Calls Tryd.prog 85 #[.nilIface] w fun e w' => e = .returned (.bool false) ∧ w' = w := by
  go_enter Tryd.func85, Tryd.ntmps85
  go_wp2
  go_ret
  exact ⟨rfl, rfl⟩
set_option maxHeartbeats 16000000 in
set_option maxRecDepth 100000 in
theorem get1_idle (p : Addr) (w : World) :
    CallsD Tryd.prog 84 #[.pointer (some p)] .returning w fun e u' w' => e = .returned (.tuple #[]) ∧ u' = .returning ∧ w' = w := by
  refine callsD_of_wpS Tryd.func84 rfl fun c₀ cs hu => ?_
  apply wpS_seq
  apply wpS_region
  simp [wpOpsS, go_sem, recoverD, hu, Tryd.ntmps84, Exit.thenS]
  refine (gave_nil w).mono ?_
  rintro e w1 ⟨rfl, rfl⟩
  refine wpS_cond (t := false) (by simp [Act.eval, Array.replicate]) ?_
  simp only [Bool.false_eq_true, if_false]
  refine wpS_of_wp (wp_skip ?_)
  cases c₀
  simp_all [bodyPostS, results, Tryd.results84]
end Go.Proofs.YtiloadafnalhpaaDoor
namespace Go.Proofs.YtiloadafnalhpaaDoor
open Go.RowKit Go.Proofs.YtiloadafnalhpaaDoorW.PrintWords Go.Proofs.YtiloadafnalhpaaDoorW.PrintLast Go.Proofs.YtiloadafnalhpaaDoorW.PrintMore
open Go.Proofs.YtiloadafnalhpaaDoor.PA
set_option linter.unusedVariables false
set_option linter.unusedSimpArgs false

set_option maxHeartbeats 16000000 in
set_option maxRecDepth 100000 in
theorem get_calls (s : ByteArray) (at_ wd : Nat) (w : World) (hw1 : 1 ≤ wd) (hw6 : wd ≤ 6) (ha : at_ + wd ≤ s.size) (hs : s.size ≤ 100000000) :
    Calls Tryd.prog 75 #[.string s, .int .i64 at_, .int .i64 wd] w fun e w' => e = .returned (.tuple #[.int .i64 (numAt s at_ wd), .int .i64 0]) ∧ Below w.heap.size w w' := by
  have hmf : ∀ (fn : Fn) (first cap : Array Value) (w : World), (Instr.makeFunc fn first cap).run Tryd.prog w = .ok (.func fn first cap) w := fun _ _ _ _ => rfl
  go_enter_defers Tryd.func75, Tryd.ntmps75
  go_wp2_with (go_at_call 86; refine (take_calls (w.heap.size + 1) s at_ wd _ hw6 ha hs (by simpa using heap_alloc_new (w.alloc (.cells #[.int .i64 0] 24)) (.cells #[.string s, .int .i64 at_] 132))).mono ?_; rintro e w1 ⟨rfl, hb1, he1⟩; have hE : w1.heap[w.heap.size]? = some (.cells #[.int .i64 0] 24 (0, 0)) := (he1.block w.heap.size (by omega)).trans ((((Below.refl (w.heap.size + 1) _).alloc (by simp) _).block w.heap.size (by omega)).trans (heap_alloc_new w _)); have c0 : w1.cell? ⟨w.heap.size, 0, none⟩ = some (.int .i64 0) := (blk_cell hE 0).trans rfl; have f0 : w1.frozen? ⟨w.heap.size, 0, none⟩ = false := blk_frozen hE 0; have HE := Aside0.mk hE; have HB1 := Aside0.mk he1; clear hb1 he1 hE)
  have hBE : Below w.heap.size w (w1.setCell ⟨w.heap.size, 0, none⟩ (.int .i64 0)) := by
    refine Below.setCell (p := ⟨w.heap.size, 0, none⟩) ?_ (Nat.le_refl _) _
    exact (((Below.refl w.heap.size w).alloc (Nat.le_refl _) _).alloc (by simp) _).trans (HB1.out.mono (by omega))
  have hcE : (w1.setCell ⟨w.heap.size, 0, none⟩ (.int .i64 0)).cell? ⟨w.heap.size, 0, none⟩ = some (.int .i64 0) := World.cell?_setCell_same _ _ _ c0
  revert hBE hcE
  generalize w1.setCell ⟨w.heap.size, 0, none⟩ (.int .i64 0) = w2
  intro hBE hcE
  refine leaves_cons (f := 84) (args := #[.pointer (some ⟨w.heap.size, 0, none⟩)]) (by simp) (by simp [go_sem]) ?_
  refine (get1_idle ⟨w.heap.size, 0, none⟩ _).mono ?_
  rintro e u' w'' ⟨rfl, rfl, rfl⟩
  simp [Leaves, settle, results, Tryd.results75, go_sem, hcE]
  exact hBE
end Go.Proofs.YtiloadafnalhpaaDoor
