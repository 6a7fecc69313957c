/-
  The walks of sum.New and sum.Mix.Told.
-/
import Derived.Test.YtiloadafnalhpaaDoorJ16
import Derived.Test.YtiloadafnalhpaaDoorJ10
import Derived.Deep.LoopGhost
namespace Go.Proofs.YtiloadafnalhpaaDoor
open Go.RowKit Go.Proofs.YtiloadafnalhpaaDoorW.PrintWords Go.Proofs.YtiloadafnalhpaaDoorW.PrintLast
set_option linter.unusedVariables false
set_option linter.unusedSimpArgs false

theorem mixC_size {part : List UInt8} (hp : part.length = 64) (st : S8) (held all : Nat) : (mixC st part held all).toArray.size = 75 := by rw [List.size_toArray, mixC_length hp]
theorem mixC_one (st : S8) (part : List UInt8) (held all : Nat) : (mixC st part held all).toArray.all (·.oneCell') = true := Array.all_eq_true_iff_forall_mem.2 (fun v hv => by
  simp only [mixC, List.mem_toArray, List.mem_append, List.mem_map] at hv
  rcases hv with ⟨x, _, rfl⟩ | hv | hv
  · rfl
  · exact byteV_one _ _ hv
  · simp only [List.mem_cons, List.not_mem_nil, or_false] at hv
    rcases hv with rfl | rfl | rfl <;> rfl)
theorem size_mix : (Tryd.prog.info? 115).map (·.size) = some 75 := by kernel_rfl
set_option maxHeartbeats 1000000 in
set_option maxRecDepth 100000 in
theorem new_calls (w : World) :
    Calls Tryd.prog 52 #[] w fun e w' => e = .returned (.pointer (some ⟨w.heap.size, 0, none⟩)) ∧ MixW w' w.heap.size (init8, []) 0 ∧ Below w.heap.size w w' := by
  go_enter Tryd.func52, Tryd.ntmps52
  go_wp2_with (first
    | (refine wpList_build_eq rfl 112 _ rfl (H8 init8) (by kernel_rfl) ?_)
    | (refine wpList_build_eq rfl 115 _ rfl (mixC init8 (List.replicate 64 0) 0 0).toArray (by kernel_rfl) ?_))
  go_ret
  exact ⟨rfl, ⟨Nat.zero_lt_succ _, _, ⟨blk_new _ _, rfl⟩, rfl⟩, (Below.refl _ _).alloc (Nat.le_refl _) _⟩
theorem MixW.below {w w1 : World} {g : Nat} {m : S8 × List UInt8} {all : Nat} (h : MixW w g m all) (hb : Below w.heap.size w w1) : MixW w1 g m all := by
  obtain ⟨a, p, b, c⟩ := h
  exact ⟨a, p, b.below hb, c⟩
theorem MixW.lt {w : World} {g : Nat} {m : S8 × List UInt8} {all : Nat} (h : MixW w g m all) : g < w.heap.size := by
  obtain ⟨a, p, b, c⟩ := h
  exact blk_lt b.1
/-- The bytes of the length, the first i of them. -/
def L8 (n i : Nat) : List UInt8 := (len8 n).take i ++ List.replicate (8 - i) 0
theorem L8_length (n i : Nat) (hi : i ≤ 8) : (L8 n i).length = 8 := by
  unfold L8
  rw [List.length_append, List.length_take, List.length_replicate]
  show min i 8 + (8 - i) = 8
  omega
theorem len8_at (n i : Nat) (hi : i < 8) : (len8 n)[i]? = some (be n (56 - 8 * i)) := by
  rcases i with _ | _ | _ | _ | _ | _ | _ | _ | i
  · rfl
  · rfl
  · rfl
  · rfl
  · rfl
  · rfl
  · rfl
  · rfl
  · omega
theorem L8_set (n i : Nat) (hi : i < 8) : (L8 n i).set i (be n (56 - 8 * i)) = L8 n (i + 1) := by
  have hl : ((len8 n).take i).length = i := by rw [List.length_take]; show min i 8 = i; omega
  have ht : (len8 n).take (i + 1) = (len8 n).take i ++ [be n (56 - 8 * i)] := by rw [List.take_add_one, len8_at n i hi]; rfl
  unfold L8
  rw [List.set_append_right _ _ (by omega), hl, Nat.sub_self, show 8 - i = (8 - (i + 1)) + 1 by omega, List.replicate_succ, List.set_cons_zero, ht]
  simp
theorem be_val (n k : Nat) {z : Int} (hz : z = (n : Int)) : IntKind.u8.wrap (z / 2 ^ k) = ((be n k).toNat : Int) := by
  subst hz
  unfold be
  rw [IntKind.wrap_u8', UInt8.toNat_ofNat', show ((2 : Int) ^ k) = ((2 ^ k : Nat) : Int) by simp, ← Int.natCast_ediv]
  omega
theorem cell8B {w : World} {g i : Nat} {l : List UInt8} {t : TypeId} (h : w.heap[g]? = some (.cells (rowB l) t (0, 0))) (hi : i < l.length) : w.cell? ⟨g, i, none⟩ = some (.int .u8 ((l.getD i 0).toNat : Int)) := cellB h hi
theorem rowB_set (l : List UInt8) (i : Nat) (c : UInt8) {z : Int} (hz : z = (c.toNat : Int)) : (rowB l).setIfInBounds i (.int .u8 z) = rowB (l.set i c) := by
  subst hz
  unfold rowB
  rw [List.setIfInBounds_toArray, ← List.map_set]
theorem MixW.setOther {w : World} {g : Nat} {m : S8 × List UInt8} {all : Nat} (h : MixW w g m all) {p : Addr} (hp : g ≠ p.block) (v : Value) : MixW (w.setCell p v) g m all := by
  obtain ⟨a, q, b, c⟩ := h
  exact ⟨a, q, ⟨blk_far b.1 hp v, b.2⟩, c⟩
theorem conv8 {w : World} {g : Nat} {l : List UInt8} {t : TypeId} {n : Nat} (hn : l.length = n) (h : w.heap[g]? = some (.cells (rowB l) t (0, 0))) (cap : Nat) : (convert 55 9 (.slice (some ⟨g, 0, none⟩) n cap)).run Tryd.prog w = .ok (.string ⟨l.toArray⟩) w := by
  subst hn
  refine run_convert_bytes_back w 55 9 5 ⟨g, 0, none⟩ cap l Tryd.underlying55 Tryd.underlying5 Tryd.underlying9 fun j hj => ?_
  rw [add_plain, cellB h hj, List.getD_eq_getElem?_getD, List.getElem?_eq_getElem hj]; rfl
theorem wpList_load_midC {P : Program} {ops : Array Oper} {rest : List Oper} {op : Oper} {a : Act} {w : World} {Q : Exit → Act → World → Prop} (hgd : op.guard = none) (ty : TypeId) (x : Operand) (ho : op.op = .load ty x)
    (b o : Nat) (hx : a.eval x = .pointer (some ⟨b, o, none⟩)) (cs : List Value) (C : Array Value) (hC : cs.toArray = C) (d : TypeDesc) (hc : w.rangeAt b o cs)
    (hu : P.underlying ty = some d) (hd : d.isRow = true) (hi : (P.info? ty).map (·.size) = some cs.length)
    (h : wpList P ops Q rest (a.put op.dst (.agg C)) w) : wpList P ops Q (op :: rest) a w := by
  subst hC
  exact wpList_load_mid hgd ty x ho b o hx cs d hc hu hd hi h
theorem index8 (s : S8) (i : Nat) (hi : i < 8) (w : World) : (Instr.index 112 (.agg (H8 s)) (.int .i64 (i : Int))).run Tryd.prog w = .ok (.int .u32 ((s.words.getD i 0).toNat : Int)) w := by
  rcases i with _ | _ | _ | _ | _ | _ | _ | _ | i
  · kernel_rfl
  · kernel_rfl
  · kernel_rfl
  · kernel_rfl
  · kernel_rfl
  · kernel_rfl
  · kernel_rfl
  · kernel_rfl
  · omega
theorem mk_toList (l : List UInt8) : (⟨l.toArray⟩ : ByteArray).data.toList = l := by simp
theorem news4 (W : World) (v0 v1 v2 v3 : Value) (t : TypeId) : ∀ j u, [v0, v1, v2, v3][j]? = some u → (W.alloc (.cells #[v0, v1, v2, v3] t)).cell? ((⟨W.heap.size, 0, none⟩ : Addr).add j) = some u := by
  intro j u h
  rw [add_plain, blk_cell (t := t) (blk_new _ _), ← h, ← Array.getElem?_toList]
theorem one4 (a b c d : Int) : ∀ v ∈ [Value.int .u8 a, .int .u8 b, .int .u8 c, .int .u8 d], v.oneCell' = true := by
  intro v hv
  simp only [List.mem_cons, List.not_mem_nil, or_false] at hv
  rcases hv with rfl | rfl | rfl | rfl <;> rfl
def outN (s : S8) (i : Nat) : List UInt8 := (s.words.take i).flatMap outW
theorem outN_succ (s : S8) (i : Nat) (hi : i < 8) : outN s (i + 1) = outN s i ++ outW (s.words.getD i 0) := by
  have h : i < s.words.length := hi
  have e : s.words.take (i + 1) = s.words.take i ++ [s.words.getD i 0] := by
    rw [List.take_add_one, List.getD_eq_getElem?_getD, List.getElem?_eq_getElem h]; rfl
  unfold outN
  rw [e, List.flatMap_append]; simp
theorem outN_all (s : S8) : outN s 8 = outP s := rfl
theorem outN_length (s : S8) (i : Nat) (hi : i ≤ 8) : (outN s i).length = 4 * i := by
  induction i with
  | zero => rfl
  | succ i ih => rw [outN_succ s i (by omega), List.length_append, ih (by omega)]; show 4 * i + 4 = _; omega
theorem outW_val (x : W32) {z : Int} (hz : z = (x.toNat : Int)) : byteV (outW x) = [.int .u8 (z / 16777216), .int .u8 (z / 65536 % 256), .int .u8 (z / 256 % 256), .int .u8 (z % 256)] := by
  have h : ∀ k, IntKind.u8.wrap (z / 2 ^ k) = ((be x.toNat k).toNat : Int) := fun k => be_val x.toNat k hz
  have h24 := h 24
  have h16 := h 16
  have h8 := h 8
  have h0 := h 0
  simp only [Int.reducePow, IntKind.wrap_u8', Int.ediv_one] at h24 h16 h8 h0
  rw [Int.emod_eq_of_lt (by omega) (by have := x.isLt; omega)] at h24
  rw [h24, h16, h8, h0]; rfl
set_option maxHeartbeats 1000000 in
set_option maxRecDepth 100000 in
theorem told_calls (g : Nat) (L : List UInt8) (w : World) (hM : MixW w g (feedP (init8, []) L) L.length) (hL : L.length ≤ 100000000) :
    Calls Tryd.prog 54 #[.pointer (some ⟨g, 0, none⟩)] w fun e w' => e = .returned (.string ⟨(sumP L).toArray⟩) ∧ Below w.heap.size w w' := by
  have hh : (feedP (init8, []) L).2.length = L.length % 64 := by rw [feedP_held L (init8, []) (by show 0 < 64; decide)]; simp
  have hSP : sumP L = outP (feedP (feedP (init8, []) L) ([128] ++ List.replicate (zerosP L.length) 0 ++ len8 (8 * L.length))).1 := by
    unfold sumP filledP
    rw [List.append_assoc, List.append_assoc, feedP_append, List.append_assoc]
  have HS := Lib.hid hSP
  clear hSP
  revert hM hh HS
  generalize feedP (init8, []) L = m
  intro hM hh HS
  obtain ⟨st, hb⟩ := m
  obtain ⟨hm, part, hR, hp⟩ := hM
  dsimp only at hm hR hp hh
  have HP := Lib.hid hp
  have HR := Aside0.mk hR
  have c74 := hR.cells.2.2
  have hHB := Lib.hid hh
  have HG := Lib.hid (blk_lt hR.1)
  clear hp hR hh
  have hsz := Lib.hid (mixC_size HR.out.2 st hb.length L.length)
  go_enter Tryd.func54, Tryd.ntmps54
  have HZ0 : Aside0 (MixW (w.alloc (.cells (mixC st part hb.length L.length).toArray 115)) w.heap.size (st, hb) L.length) := ⟨⟨hm, part, ⟨blk_new _ _, HR.out.2⟩, HP.out⟩⟩
  have HZB : Aside0 (Below w.heap.size w (w.alloc (.cells (mixC st part hb.length L.length).toArray 115))) := ⟨(Below.refl _ _).alloc (Nat.le_refl _) _⟩
  have hZ : (w.alloc (.cells (mixC st part hb.length L.length).toArray 115)).cell? ⟨w.heap.size, 73, none⟩ = some (.int .u64 L.length) := (MixR.cells (w := w.alloc _) ⟨blk_new _ _, HR.out.2⟩).2.1
  go_wp2_with (first
    | (refine wpList_load_row rfl 115 _ rfl g rfl 115 (mixC st part hb.length L.length).toArray (0, 0) _ HR.out.1 Tryd.underlying115 rfl (by rw [hsz.out]; exact size_mix) ?_)
    | (refine wpList_store_row rfl 115 _ _ rfl w.heap.size (mixC st part hb.length L.length).toArray rfl rfl 115 _ (heap_alloc_new _ _) (by rw [hsz.out]; exact size_mix) (by rw [hsz.out]; rfl) (mixC_one _ _ _ _) ?_; rw [setRow_new]; revert HZ0 HZB hZ; generalize w.alloc (.cells (mixC st part hb.length L.length).toArray 115) = wz; intro HZ0 HZB hZ)
    | (go_at_call 53; refine (feed_calls w.heap.size ⟨#[128]⟩ (st, hb) L.length wz HZ0.out (by decide) (by omega)).mono ?_; rintro e w1 ⟨rfl, hm1, hb1⟩; have HM1 := Aside0.mk hm1; have HB1 := Aside0.mk (HZB.out.trans hb1); clear hm1 hb1))
  have HBS : Hid ((56 : Int) - 8 * 0 = 56) := rfl
  go_loopg [27] (zerosP L.length) (fun k v27 wr => ∃ j : Nat, k + j = zerosP L.length ∧ Aside0 (MixW wr w.heap.size (feedP (st, hb) ([128] ++ List.replicate j 0)) (L.length + 1 + j)) ∧ Aside0 (Below w.heap.size w wr))
  case atStart => exact ⟨0, by omega, HM1, HB1⟩
  case round =>
    clear HM1 HB1 HZ0 HZB hZ
    obtain ⟨j, hj, HM, HB⟩ := hrel
    have hheld : (feedP (st, hb) ([128] ++ List.replicate j 0)).2.length = (L.length + 1 + j) % 64 := by
      rw [feedP_held _ _ hm]
      show (hb.length + _) % 64 = _
      rw [hHB.out]; simp; omega
    have hzl : zerosP L.length = (119 - L.length % 64) % 64 := rfl
    have c72 : wr.cell? ⟨w.heap.size, 72, none⟩ = some (.int .i64 (((L.length + 1 + j) % 64 : Nat) : Int)) := by
      obtain ⟨_, p2, h2, _⟩ := HM.out
      rw [← hheld]; exact h2.cells.1
    by_cases h1 : gk = 0
    · have h56 : (L.length + 1 + j) % 64 = 56 := by omega
      have hjz : j = zerosP L.length := by omega
      have hS2 := HS.out
      rw [← hjz, feedP_append] at hS2
      have HS2 := Lib.hid hS2
      rw [h56] at c72
      have hjl : j ≤ 64 := by omega
      clear hheld hzl h1 hj h56 HS hS2
      revert HM HS2
      generalize feedP (st, hb) ([128] ++ List.replicate j 0) = m2
      intro HM HS2
      have HJ := Lib.hid hjz
      clear hjz
      rw [show ((56 : Nat) : Int) = 56 from rfl] at c72
      have hN := blk_new wr (.cells (rowB (L8 (8 * L.length) 0)) 117)
      have HN := Aside0.mk hN
      have HMn := Aside0.mk (HM.out.below ((Below.refl _ _).alloc (Nat.le_refl _) (.cells (rowB (L8 (8 * L.length) 0)) 117)))
      have HBn := Aside0.mk (HB.out.alloc HB.out.size (.cells (rowB (L8 (8 * L.length) 0)) 117))
      have HLT := Aside0.mk HM.out.lt
      clear hN
      obtain ⟨wo, rfl⟩ : ∃ wo : World, wo = wr := ⟨_, rfl⟩
      go_wp2
      go_loopw [30, 6] (fun v30 v6 wr => ∃ i : Nat, v30 = .int .i64 i ∧ i ≤ 8 ∧ Aside0 (wr.heap[wo.heap.size]? = some (.cells (rowB (L8 (8 * L.length) i)) 117 (0, 0))) ∧ Aside0 (MixW wr w.heap.size m2 (L.length + 1 + j)) ∧ Aside0 (Below w.heap.size w wr)) (fun v30 _ _ => 8 - (intOf v30).toNat)
      case atStart => exact ⟨0, rfl, Nat.zero_le _, HN, HMn, HBn⟩
      case round =>
        clear HN HMn HBn HM HB c72
        obtain ⟨i, rfl, hi, HN, HM, HB⟩ := hrel
        by_cases h1 : i < 8
        · have cn := cell8B (i := i) HN.out (by rw [L8_length _ _ hi]; exact h1)
          have fn := blk_frozen HN.out i
          have hv := be_val (8 * L.length) (56 - 8 * i) (z := (L.length : Int) * 8) (by omega)
          have HV := Lib.hid hv
          clear hv
          have m0 : IntKind.i64.wrap (8 * (i : Int)) = 8 * (i : Int) := IntWalk.i64_in _ (by omega)
          have m1 : IntKind.i64.wrap (56 - 8 * (i : Int)) = 56 - 8 * (i : Int) := IntWalk.i64_in _ (by omega)
          have a0 : (0 : Int) ≤ 8 * (i : Int) := by omega
          have a1 : (0 : Int) ≤ 56 - 8 * (i : Int) := by omega
          have a2 : 56 - 8 * (i : Int) < 64 := by omega
          have n1 : (56 - 8 * (i : Int)).toNat = 56 - 8 * i := by omega
          have i0 : (i : Int) < 8 := by omega
          go_wp2
          go_roundw
          case rel =>
            refine ⟨i + 1, by go_num, by omega, ⟨blk_put HN.out i _ ?_⟩, ⟨HM.out.setOther (by have := HLT.out; show w.heap.size ≠ wo.heap.size; omega) _⟩, ⟨HB.out.setCell (p := ⟨wo.heap.size, i, none⟩) (Nat.le_of_lt HLT.out) _⟩⟩
            rw [← L8_set _ i h1]
            exact rowB_set _ _ _ (by rw [← HV.out, IntKind.wrap_u8'])
          case measure => simp [intOf]; omega
        · obtain rfl : i = 8 := by omega
          clear h1 hi
          rw [show ((8 : Nat) : Int) = 8 from rfl]
          have hL8 : L8 (8 * L.length) 8 = len8 (8 * L.length) := by unfold L8; simp [len8]
          have hN := HN.out
          rw [hL8] at hN
          have hconv := conv8 (n := 8) rfl hN 8
          clear hL8 hN HN
          have HS8 : Aside0 (ByteArray.size ⟨(len8 (8 * L.length)).toArray⟩ ≤ 1000000000) := ⟨by show (len8 (8 * L.length)).toArray.size ≤ 1000000000; simp [len8]⟩
          go_wp2_with (first
            | (go_at_call 53; refine (feed_calls w.heap.size ⟨(len8 (8 * L.length)).toArray⟩ m2 (L.length + 1 + j) wr HM.out HS8.out (by omega)).mono ?_; rintro e w3 ⟨rfl, hm3, hb3⟩; have HB3 := Aside0.mk (HB.out.trans hb3); obtain ⟨q1, q2, q3, q4⟩ := hm3; rw [mk_toList] at q3; obtain ⟨s3, hs3⟩ : ∃ s3, (feedP m2 (len8 (8 * L.length))).1 = s3 := ⟨_, rfl⟩; rw [hs3] at q3; have HS3 := Lib.hid hs3; have HST := Aside0.mk q3.stateAt; clear q1 q2 q3 q4 hb3 hs3)
            | (refine wpList_load_midC rfl 112 _ rfl w.heap.size 0 rfl (s3.words.map Go.Proofs.YtiloadafnalhpaaDoor.u32) (H8 s3) rfl _ HST.out Tryd.underlying112 rfl size_8 ?_))
          clear HM HB hconv HST HS8
          have hS3 := HS2.out
          rw [HS3.out] at hS3
          have HS := Lib.hid hS3
          clear hS3 HS2 HS3
          have HBX := Aside0.mk (show Below w.heap.size w w3 from HB3.out)
          clear HB3
          obtain ⟨i0, hi, hz0, hz1, hz2⟩ := info_parts infoB
          go_loopw [47, 9, 7] (fun v47 v9 v7 wr => ∃ i : Nat, v47 = .int .i64 i ∧ i ≤ 8 ∧ Aside0 (wr.ownsRow w.heap.size 5 1 v7 (4 * i) (byteV (outN s3 i))) ∧ Aside0 (Below w.heap.size w wr)) (fun v47 _ _ _ => 8 - (intOf v47).toNat)
          case atStart => exact ⟨0, rfl, Nat.zero_le _, ⟨own_nil _ _ _ _⟩, HBX⟩
          case round =>
            clear HBX
            obtain ⟨i, rfl, hi8, HO, HB⟩ := hrel
            by_cases h1 : i < 8
            · have hix := index8 s3 i h1
              have hw := HB.out.size
              go_wp2_with (at_builtin; go_loud (refine wpList_append_own _ rfl (.tmp 50) (.tmp 62) 55 rfl w.heap.size 5 i0 _ 1 1 Tryd.underlying55 hi hz0 hz1 hz2 rfl (by decide) _ (4 * i) (byteV (outN s3 i)) rfl (HO.out.alloc _) ⟨_, 0, none⟩ 4 4 [.int .u8 _, .int .u8 _, .int .u8 _, .int .u8 _] rfl rfl (news4 _ _ _ _ _ _) (one4 _ _ _ _) (by unfold maxLen; omega) (by omega) (by simp; omega) ?_); intro v7' w5 hown1 hg1 _; have H5 := Aside0.mk hown1; have HB5 := Aside0.mk ((HB.out.alloc hw _).grown hg1 (by simp; omega) (fun k hk => by have := own_base HO.out k hk; omega)); clear hown1 hg1)
              go_roundw
              case rel =>
                refine ⟨i + 1, by go_num, by omega, ⟨?_⟩, HB5⟩
                have h := H5.out
                rw [outN_succ _ _ h1, byteV, List.map_append]
                have e := outW_val (s3.words[i]?.getD 0) rfl
                rw [List.getD_eq_getElem?_getD]
                unfold byteV at e h
                rw [e]
                exact h
              case measure => simp [intOf]; omega
            · obtain rfl : i = 8 := by omega
              have ho := HO.out
              rw [outN_all] at ho
              obtain ⟨gg, cap, rfl, hbg, hll, hconv⟩ := own_bytes ho (by decide)
              rw [show ((8 : Nat) : Int) = 8 from rfl]
              clear h1 ho hll hbg hi8
              go_wp2
              go_ret
              exact ⟨by rw [HS.out]; rfl, HB.out⟩
    · have h56 : (L.length + 1 + j) % 64 ≠ 56 := by omega
      have hb1 : ((((L.length + 1 + j) % 64 : Nat) : Int) != 56) = true := by simp; omega
      have HGK := Lib.hid h1
      have hjl : j ≤ 64 := by omega
      clear hheld hzl h56 h1
      revert c72 hb1
      generalize (L.length + 1 + j) % 64 = held
      intro c72 hb1
      go_wp2_with (go_at_call 53; refine (feed_calls w.heap.size ⟨#[0]⟩ _ (L.length + 1 + j) wr HM.out (by decide) (by omega)).mono ?_; rintro e w2 ⟨rfl, hm2, hb2⟩; have HM2 := Aside0.mk hm2; have HB2 := Aside0.mk (HB.out.trans hb2); clear hm2 hb2)
      go_roundg (gk - 1)
      case measure => have := HGK.out; omega
      case rel =>
        refine ⟨j + 1, by have := HGK.out; omega, ⟨?_⟩, HB2⟩
        have h := HM2.out
        rw [← feedP_append, List.append_assoc, ← List.replicate_succ'] at h
        exact h
/-- Sum answers the text's sum. -/
def sumS (s : ByteArray) : ByteArray := ⟨(sumP s.data.toList).toArray⟩
set_option maxHeartbeats 1000000 in
set_option maxRecDepth 100000 in
theorem sum_calls (s : ByteArray) (w : World) (hs : s.size ≤ 100000000) :
    Calls Tryd.prog 31 #[.string s] w fun e w' => e = .returned (.string (sumS s)) ∧ Below w.heap.size w w' := by
  have hl : s.data.toList.length = s.size := by simp
  have HL := Lib.hid hl
  clear hl
  go_enter Tryd.func31, Tryd.ntmps31
  go_wp2_with (first
    | (go_at_call 52; refine (new_calls _).mono ?_; rintro e w1 ⟨rfl, hm1, hb1⟩; have HM1 := Aside0.mk hm1; have HB1 := Aside0.mk hb1; clear hm1 hb1)
    | (go_at_call 53; refine (feed_calls w.heap.size s (init8, []) 0 w1 HM1.out (by omega) (by omega)).mono ?_; rintro e w2 ⟨rfl, hm2, hb2⟩; rw [Nat.zero_add, ← HL.out] at hm2; have HM2 := Aside0.mk hm2; have HB2 := Aside0.mk (HB1.out.trans hb2); clear hm2 hb2)
    | (go_at_call 54; refine (told_calls w.heap.size s.data.toList w2 HM2.out (by rw [HL.out]; omega)).mono ?_; rintro e w3 ⟨rfl, hb3⟩; have HB3 := Aside0.mk (HB2.out.trans (hb3.mono HB2.out.size)); clear hb3))
  go_ret
  exact ⟨rfl, HB3.out⟩
end Go.Proofs.YtiloadafnalhpaaDoor
