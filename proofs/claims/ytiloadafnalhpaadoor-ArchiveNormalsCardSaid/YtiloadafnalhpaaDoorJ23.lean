/-
  The walk of the reference's Normal.
-/
import Derived.Test.YtiloadafnalhpaaDoorJ9
import Derived.StillTailTactics
namespace Go.Proofs.YtiloadafnalhpaaDoor
open Go.RowKit Go.Proofs.YtiloadafnalhpaaDoorW.PrintWords Go.Proofs.YtiloadafnalhpaaDoorW.PrintLast Go.Proofs.YtiloadafnalhpaaDoorW.PrintMore
open Go.Proofs.YtiloadafnalhpaaDoor.PA
set_option linter.unusedVariables false
set_option linter.unusedSimpArgs false

set_option maxHeartbeats 16000000 in
set_option maxRecDepth 100000 in
theorem refN_calls (A : Option Addr) (c : Nat) (l : List Nd) (w : World) (hr : Kd.C k33 w A l.length l) (hc : l.length ≤ c) (hl : l.length ≤ 1000000) (hg : ∀ n ∈ l, GoodN n) :
    Calls Tryd.prog 6 #[.slice A l.length c] w fun e w' => ∃ (v : Value) (er : Int) (r : List Nd), e = .returned (.tuple #[v, .int .i64 er]) ∧ RefR l er r ∧ Kd.R k33 33 w' w.heap.size (fun _ => True) v r ∧ Below w.heap.size w w' := by
  have HG := Aside0.mk hg
  have HC := Aside0.mk hr
  have HC0 := Aside0.mk hc
  clear hg hr hc
  go_enter Tryd.func6, Tryd.ntmps6
  go_wp2
  go_loopw [4, 5] (fun v4 i wr => ∃ (k : Nat) (out : List Nd), i = .int .i64 k ∧ k ≤ l.length ∧ Aside0 (refIns out (l.drop k) = refIns [] l) ∧ Aside0 (out.length = k) ∧ Aside0 (∀ n ∈ out, mayN n = true) ∧ Aside0 (OwnN wr w.heap.size v4 out) ∧ Aside0 (Below w.heap.size w wr)) (fun _ i _ => l.length - (intOf i).toNat)
  case atStart => exact ⟨0, [], rfl, Nat.zero_le _, ⟨by simp⟩, ⟨rfl⟩, ⟨fun n h => by cases h⟩, ⟨own_nil _ _ _ _⟩, ⟨Below.refl _ _⟩⟩
  case round =>
    obtain ⟨k, out, rfl, hk, HK, HKL, HMO, HO, HB⟩ := hrel
    obtain ⟨A4, c4, rfl, hc4, hr4⟩ := HO.out.reads
    have HR4 := Aside0.mk hr4
    have HC4 := Aside0.mk hc4
    clear hr4 hc4
    by_cases hkl : k < l.length
    · obtain ⟨x, hx⟩ : ∃ x, l[k]? = some x := ⟨_, List.getElem?_eq_getElem hkl⟩
      obtain ⟨ad, hA⟩ : ∃ ad, A = some ad := by obtain ⟨ad, e, _⟩ := HC.out.2.2 (by omega); exact ⟨ad, e⟩
      subst hA
      obtain ⟨n0, n1, n2, n3, n4, n5, n6⟩ := node_add (Kd.C_below HC.out HB.out) hx
      have hxg := HG.out x (List.mem_of_getElem? hx)
      have HX := Aside0.mk hx
      obtain ⟨km, hkm⟩ := may_f x
      have hmay := fun W => grapnelref18_may.calls km x.f0 x.f1.f0 x.f1.f1 x.f1.f2 x.f1.f3 x.f1.f4 x.f2 _ W hkm
      clear hx hkm hxg
      cases hm : mayN x with
      | false =>
        rw [hm] at hmay
        have HMX := Aside0.mk hm
        clear hm
        go_wp2_with (go_at_call 14; refine (hmay _).mono ?_; rintro e w1 ⟨rfl, hb1⟩; have HB1 := Aside0.mk hb1; clear hb1)
        go_ret2
        exact ⟨_, 5, [], rfl, .inl ⟨rfl, rfl, .inl (refIns_no HX.out HK.out (fun h => by rw [HMX.out] at h; cases h.1))⟩, Kd.R_nil _ _ _ _ _, below_then HB.out HB.out.size HB1.out⟩
      | true =>
        rw [hm] at hmay
        have HMX := Aside0.mk hm
        clear hm
        obtain ⟨kf, hkf⟩ := find_f out x.f0 (by have := HKL.out; omega)
        have hkf' : grapnelref18_Find.f kf out x.f0 = some (findIx out (pth x)) := hkf
        have hfind := fun W (h : Kd.C k33 W A4 out.length out) => grapnelref18_Find.calls kf A4 c4 out x.f0 _ W h HC4.out hkf'
        clear hkf hkf'
        by_cases hfi : findIx out (pth x) = -1
        · rw [hfi] at hfind
          have HFI := Aside0.mk hfi
          clear hfi
          go_wp2_with (first
            | (go_at_call 14; (with_reducible refine (hmay _).mono ?_); rintro e w1 ⟨rfl, hb1⟩; have HB1 := Aside0.mk hb1; obtain ⟨m0, m1, m2, m3, m4, m5, m6⟩ := node_add (Kd.C_below (Kd.C_below HC.out HB.out) hb1) HX.out; clear hb1)
            | (go_at_call 15; refine (hfind _ (Kd.C_below HR4.out HB1.out)).mono ?_; rintro e w2 ⟨rfl, hd2⟩; have HD2 := Aside0.mk hd2; clear hd2))
          obtain ⟨i0, hi, hz0, hz1, hz2⟩ := info_parts info33
          have HW2 : Aside0 (Below w.heap.size w w2) := ⟨below_then (below_then HB.out HB.out.size HB1.out) (below_then HB.out HB.out.size HB1.out).size HD2.out.below⟩
          have HCW : Aside0 (Kd.C k33 w2 (some ad) l.length l) := ⟨Kd.C_below HC.out HW2.out⟩
          have HRW : Aside0 (Kd.C k33 w2 A4 out.length out) := ⟨Kd.C_below (Kd.C_below HR4.out HB1.out) HD2.out.below⟩
          have hlo : out.length ≤ 1000000 := by have := HKL.out; omega
          have hxok := mayN_ok HMX.out
          have HXOK := Aside0.mk hxok
          clear hxok
          obtain ⟨wo, rfl⟩ : ∃ wo : World, wo = wr := ⟨_, rfl⟩
          go_loopw [6, 7, 8] (fun v6 v7 v8 wr => ∃ (j : Nat) (next : List Nd) (done : Bool), v8 = .int .i64 j ∧ v7 = .bool done ∧ j ≤ out.length ∧ Aside0 (Ins x out j next done) ∧ Aside0 (OwnN wr w2.heap.size v6 next) ∧ Aside0 (Below w2.heap.size w2 wr)) (fun _ _ v8 _ => out.length - (intOf v8).toNat)
          case atStart => exact ⟨0, [], false, rfl, rfl, Nat.zero_le _, ⟨Ins.start _ _⟩, ⟨own_nil _ _ _ _⟩, ⟨Below.refl _ _⟩⟩
          case round =>
            obtain ⟨j, next, done, rfl, rfl, hj, HI, HO6, HBi⟩ := hrel
            have hszi : w2.heap.size ≤ wr.heap.size := HBi.out.size
            have hnl := HI.out.length hj
            have hb0 : next.length + 1 ≤ maxLen ∧ (next.length + 1) * 72 ≤ 140737488355328 := ⟨by unfold maxLen; omega, by omega⟩
            have hb1 : (next ++ [x]).length + 1 ≤ maxLen ∧ ((next ++ [x]).length + 1) * 72 ≤ 140737488355328 := ⟨by unfold maxLen; simp; omega, by simp; omega⟩
            have hoq : ∀ nq, (wr.drewN nq).ownsRow w2.heap.size 33 7 u6 next.length (flatN next) := fun nq => HO6.out
            obtain ⟨x0, x1, x2, x3, x4, x5, x6⟩ := node_add (Kd.C_below HCW.out HBi.out) HX.out
            by_cases hjl : j < out.length
            · obtain ⟨y, hy⟩ : ∃ y, out[j]? = some y := ⟨_, List.getElem?_eq_getElem hjl⟩
              obtain ⟨a4, hA4⟩ : ∃ a4, A4 = some a4 := by obtain ⟨a4, e, _⟩ := HRW.out.2.2 (by omega); exact ⟨a4, e⟩
              subst hA4
              obtain ⟨y0, y1, y2, y3, y4, y5, y6⟩ := node_add (Kd.C_below HRW.out HBi.out) hy
              have HY := Aside0.mk hy
              have hym := HMO.out y (List.mem_of_getElem? hy)
              clear hy
              cases done with
              | true =>
                clear hb1 hym
                go_wp2
                go_quiet (fail)
                go_wp2_with (at_builtin; refine wpList_append_own _ rfl (.tmp 66) (.tmp 71) 22 rfl w2.heap.size 33 i0 _ 7 72 Tryd.underlying22 hi hz0 hz1 hz2 rfl (by decide) _ next.length (flatN next) rfl ((hoq _).alloc _) ⟨_, 0, none⟩ 1 1 (encN y) rfl rfl (new_cells _ y) (encN_one y) hb0.1 hb0.2 (by simp; omega) ?_; intro v7 w5 hown1 hg1 _; have H5 := Aside0.mk (OwnN.snoc hown1); have HB5 := Aside0.mk (app_below (B := w2.heap.size) (w2 := w2) (pw_below_drewN HBi.out _) (by simp; omega) (hoq _) hg1); clear hown1 hg1)
                go_roundw
                case rel => exact ⟨j + 1, _, true, by go_num, rfl, by omega, ⟨HI.out.done HY.out⟩, H5, HB5⟩
                case measure => simp [intOf]; omega
              | false =>
                obtain ⟨kl, hkl'⟩ := less_f x.f0 y.f0 (by have := HXOK.out.2; simp [pth] at this; omega) (by have := (mayN_ok hym).2; simp [pth] at this; omega) HXOK.out.1 (mayN_ok hym).1
                have hless := fun W => (grapnelref18_Less.calls kl x.f0 y.f0 _ W hkl').mono (fun e w' (h : _ ∧ Drawn0 W w') => (⟨h.1, h.2.out⟩ : _ ∧ ∃ m, w' = W.drewN m))
                clear hkl' hym
                by_cases hlt : ordL (pth x) (pth y) < 0
                · have hd : decide (ordL x.f0.data.toList y.f0.data.toList < 0) = true := decide_eq_true hlt
                  rw [hd] at hless
                  have HLT := Aside0.mk hlt
                  clear hd hlt
                  go_wp2
                  go_quiet ((go_at_call 16; exact Calls.quiet_of (hless _)))
                  go_wp2_with (first | (at_builtin; refine wpList_append_own _ rfl (.tmp 59) (.tmp 64) 22 rfl w2.heap.size 33 i0 _ 7 72 Tryd.underlying22 hi hz0 hz1 hz2 rfl (by decide) _ next.length (flatN next) rfl ((hoq _).alloc _) ⟨_, 0, none⟩ 1 1 (encN x) rfl rfl (new_cells _ x) (encN_one x) hb0.1 hb0.2 (by simp; omega) ?_; intro v7 w5 hown1 hg1 _; have H5 := Aside0.mk (OwnN.snoc hown1); have HB5 := Aside0.mk (app_below (B := w2.heap.size) (w2 := w2) (pw_below_drewN HBi.out _) (by simp; omega) (hoq _) hg1); obtain ⟨q0, q1, q2, q3, q4, q5, q6⟩ := node_add (Kd.C_below HRW.out HB5.out) HY.out; have hsz5 : w2.heap.size ≤ w5.heap.size := HB5.out.size; clear hown1 hg1) | (at_builtin; refine wpList_append_own _ rfl (.tmp 66) (.tmp 71) 22 rfl w2.heap.size 33 i0 _ 7 72 Tryd.underlying22 hi hz0 hz1 hz2 rfl (by decide) _ (next ++ [x]).length (flatN (next ++ [x])) rfl (H5.out.alloc _) ⟨_, 0, none⟩ 1 1 (encN y) rfl rfl (new_cells _ y) (encN_one y) hb1.1 hb1.2 (by simp; omega) ?_; intro v8 w6 hown1 hg1 _; have H6 := Aside0.mk (OwnN.snoc hown1); have HB6 := Aside0.mk (app_below (B := w2.heap.size) (w2 := w2) HB5.out hsz5 H5.out hg1); clear hown1 hg1))
                  go_roundw
                  case rel => exact ⟨j + 1, _, true, by go_num, rfl, by omega, ⟨HI.out.hit HY.out HLT.out⟩, H6, HB6⟩
                  case measure => simp [intOf]; omega
                · have hd : decide (ordL x.f0.data.toList y.f0.data.toList < 0) = false := decide_eq_false hlt
                  rw [hd] at hless
                  have HLT := Aside0.mk hlt
                  clear hd hlt
                  go_wp2
                  go_quiet ((go_at_call 16; exact Calls.quiet_of (hless _)))
                  go_wp2_with (at_builtin; refine wpList_append_own _ rfl (.tmp 66) (.tmp 71) 22 rfl w2.heap.size 33 i0 _ 7 72 Tryd.underlying22 hi hz0 hz1 hz2 rfl (by decide) _ next.length (flatN next) rfl ((hoq _).alloc _) ⟨_, 0, none⟩ 1 1 (encN y) rfl rfl (new_cells _ y) (encN_one y) hb0.1 hb0.2 (by simp; omega) ?_; intro v7 w5 hown1 hg1 _; have H5 := Aside0.mk (OwnN.snoc hown1); have HB5 := Aside0.mk (app_below (B := w2.heap.size) (w2 := w2) (pw_below_drewN HBi.out _) (by simp; omega) (hoq _) hg1); clear hown1 hg1)
                  go_roundw
                  case rel => exact ⟨j + 1, _, false, by go_num, rfl, by omega, ⟨HI.out.miss HY.out (by have := HLT.out; omega)⟩, H5, HB5⟩
                  case measure => simp [intOf]; omega
            · obtain rfl : j = out.length := by omega
              have HMO' : Aside0 (∀ n ∈ insN x out, mayN n = true) := ⟨fun n hn => by
                rcases insN_mem x out n hn with h | h
                · rw [h]; exact HMX.out
                · exact HMO.out n h⟩
              have HKL' : Aside0 ((insN x out).length = k + 1) := ⟨by rw [insN_length, HKL.out]⟩
              have HK' : Aside0 (refIns (insN x out) (l.drop (k + 1)) = refIns [] l) := ⟨refIns_go HX.out HK.out HMX.out HFI.out⟩
              cases done with
              | true =>
                have he := HI.out.full
                clear hb1
                go_wp2
                go_roundw
                case rel => exact ⟨k + 1, insN x out, by go_num, by omega, HK', HKL', HMO', ⟨by rw [he]; exact own_weaken HO6.out HW2.out.size⟩, ⟨below_then HW2.out HW2.out.size HBi.out⟩⟩
                case measure => simp [intOf]; omega
              | false =>
                have he := HI.out.last
                clear hb1
                go_wp2_with (at_builtin; refine wpList_append_own _ rfl (.tmp 75) (.tmp 80) 22 rfl w2.heap.size 33 i0 _ 7 72 Tryd.underlying22 hi hz0 hz1 hz2 rfl (by decide) _ next.length (flatN next) rfl (HO6.out.alloc _) ⟨_, 0, none⟩ 1 1 (encN x) rfl rfl (new_cells _ x) (encN_one x) hb0.1 hb0.2 (by simp; omega) ?_; intro v7 w5 hown1 hg1 _; have H5 := Aside0.mk (OwnN.snoc hown1); have HB5 := Aside0.mk (app_below (B := w2.heap.size) (w2 := w2) HBi.out hszi HO6.out hg1); clear hown1 hg1)
                go_roundw
                case rel => exact ⟨k + 1, insN x out, by go_num, by omega, HK', HKL', HMO', ⟨by rw [he]; exact own_weaken H5.out HW2.out.size⟩, ⟨below_then HW2.out HW2.out.size HB5.out⟩⟩
                case measure => simp [intOf]; omega
        · have hfi' : 0 ≤ findIx out (pth x) := by have := findIx_range out (pth x); omega
          have HFI := Aside0.mk hfi
          have HNO : Aside0 (refIns [] l = none) := ⟨refIns_no HX.out HK.out (fun h => hfi h.2)⟩
          clear hfi HFI
          generalize findIx out (pth x) = fi at hfind hfi'
          go_wp2_with (first
            | (go_at_call 14; (with_reducible refine (hmay _).mono ?_); rintro e w1 ⟨rfl, hb1⟩; have HB1 := Aside0.mk hb1; obtain ⟨m0, m1, m2, m3, m4, m5, m6⟩ := node_add (Kd.C_below (Kd.C_below HC.out HB.out) hb1) HX.out; clear hb1)
            | (go_at_call 15; refine (hfind _ (Kd.C_below HR4.out HB1.out)).mono ?_; rintro e w2 ⟨rfl, hd2⟩; have HD2 := Aside0.mk hd2; clear hd2))
          go_ret2
          exact ⟨_, 5, [], rfl, .inl ⟨rfl, rfl, .inl HNO.out⟩, Kd.R_nil _ _ _ _ _, below_then (below_then HB.out HB.out.size HB1.out) (below_then HB.out HB.out.size HB1.out).size HD2.out.below⟩
    · obtain rfl : k = l.length := by omega
      have HK' : Aside0 (refIns [] l = some out) := ⟨by have h := HK.out; rw [List.drop_length] at h; rw [← h]; rfl⟩
      have hob : out.length ≤ 1000000 := by have := HKL.out; omega
      by_cases ho : out = []
      · subst ho
        clear hkl hk
        go_wp2
        go_ret2
        exact ⟨_, 5, [], rfl, .inl ⟨rfl, rfl, .inr ⟨_, HK'.out, .inl rfl⟩⟩, Kd.R_nil _ _ _ _ _, HB.out⟩
      · have hlp : 0 < out.length := List.length_pos_iff.mpr ho
        have hz : ((out.length : Int) == 0) = false := beq_eq_false_iff_ne.mpr (by omega)
        obtain ⟨g, cap, hv4, hbg⟩ := own_form HO.out (fun e => by injection e with e1 e2 e3; omega)
        injection hv4 with e1 e2 e3
        subst e1; subst e3
        have hrow := HO.out.row rfl
        obtain ⟨x, hx⟩ : ∃ x, out[0]? = some x := ⟨_, List.getElem?_eq_getElem hlp⟩
        obtain ⟨n0, n1, n2, n3, n4, n5, n6⟩ := hrow.node 0 x hx
        have hroot : rootB out = (pth x == [47] && kind x == 2) := by
          cases out with
          | nil => exact absurd rfl ho
          | cons y t => obtain rfl : y = x := by simpa using hx
                        rfl
        have HROOT := Aside0.mk hroot
        have HROW := Aside0.mk hrow
        have HBG := Aside0.mk hbg
        have HLP := Aside0.mk hlp
        have tx := ByteArray.toList_eq x.f0
        clear hrow ho hx HK hbg hroot HR4 HC4 HO
        by_cases hp : x.f0.data.toList = [47]
        · have hp1 : (x.f0.toList != [47]) = false := by rw [tx]; exact bne_eq_false_iff_eq.mpr hp
          have hp2 : (x.f0.toList == [47]) = true := by rw [tx]; exact beq_iff_eq.mpr hp
          by_cases hk2 : x.f1.f2 = 2
          · have hk3 : (x.f1.f2 != 2) = false := bne_eq_false_iff_eq.mpr hk2
            have hk4 : (x.f1.f2 == 2) = true := beq_iff_eq.mpr hk2
            have HRT : Aside0 (rootB out = true) := ⟨by rw [HROOT.out, show (pth x == [47]) = true from beq_iff_eq.mpr hp, show (kind x == 2) = true from hk4]; rfl⟩
            obtain ⟨is, his, hzs0, hzs1, hzs2⟩ := info_parts infoS
            have hmb : is.bytes * out.length ≤ 281474976710656 := by rw [hzs2]; omega
            have hml : out.length ≤ maxLen := by unfold maxLen; omega
            obtain ⟨wo, rfl⟩ : ∃ wo : World, wo = wr := ⟨_, rfl⟩
            clear hp hk2 tx HROOT
            go_wp2_with (at_make; refine wpList_make_full _ rfl _ _ 41 rfl wo.heap.size 31 is _ 5 Tryd.underlying41 his hzs0 hzs1 .i64 .i64 _ _ out.length rfl rfl rfl rfl hmb hml (Nat.le_refl _) ?_; intro w1 hown1 hg1; have HRS := Aside0.mk (RowS.of_own hown1); have HG1 := Aside0.mk hg1; clear hown1 hg1)
            have HB1 : Aside0 (Below w.heap.size w w1) := ⟨HB.out.grown HG1.out HB.out.size (fun j hj => by cases hj)⟩
            have HW1 : Aside0 (RowN w1 g c4 out) := ⟨HROW.out.block (HG1.out.block g HROW.out.lt (by simp))⟩
            have hgs : w.heap.size ≤ wo.heap.size := HB.out.size
            have hgn : g < wo.heap.size := HROW.out.lt
            clear HROW HB HG1 n0 n1 n2 n3 n4 n5 n6
            go_loopw [10] (fun v10 wr => ∃ k : Nat, v10 = .int .i64 k ∧ k ≤ out.length ∧ Aside0 (refC out k (out.drop k) = refC out 0 out) ∧ Aside0 (RowS wr wo.heap.size ((out.take k).map (statR out) ++ List.replicate (out.length - k) z31)) ∧ Aside0 (RowN wr g c4 out) ∧ Aside0 (Below w.heap.size w wr)) (fun v10 _ => out.length - (intOf v10).toNat)
            case atStart => exact ⟨0, rfl, Nat.zero_le _, ⟨by simp⟩, ⟨by simpa using HRS.out⟩, HW1, HB1⟩
            case round =>
              obtain ⟨k, rfl, hk, HC, HS, HR, HB⟩ := hrel
              by_cases hkl : k < out.length
              · obtain ⟨x, hx⟩ : ∃ x, out[k]? = some x := ⟨_, List.getElem?_eq_getElem hkl⟩
                have hxm := HMO.out x (List.mem_of_getElem? hx)
                have HX := Aside0.mk hx
                have hxok := mayN_ok hxm
                obtain ⟨ka, hka⟩ := above_f x.f0 (by have := hxok.2; simp [pth] at this; omega) (splitE_ok (mayN_path hxm)).2.1
                have habv := fun W => (grapnelref18_Above.calls ka x.f0 _ W hka).mono (fun e w' (h : _ ∧ Drawn0 W w') => (⟨h.1, h.2.out⟩ : _ ∧ ∃ m, w' = W.drewN m))
                obtain ⟨kf, hkf⟩ := find_f out (aboveB x.f0) hob
                have hkf' : grapnelref18_Find.f kf out (aboveB x.f0) = some (findIx out (aboveB x.f0).data.toList) := hkf
                have hfind := fun W (h : Kd.C k33 W (some ⟨g, 0, none⟩) out.length out) => grapnelref18_Find.calls kf (some ⟨g, 0, none⟩) c4 out (aboveB x.f0) _ W h (HR.out.room) hkf'
                have hrefc : refC out k (out.drop k) = (dirAt out k x && okFrom k x 0 out && refC out (k + 1) (out.drop (k + 1))) := by rw [drop_cons_nd hx]; rfl
                have HRC := Aside0.mk hrefc
                have HABV := Aside0.mk habv
                have HFIND := Aside0.mk hfind
                clear hkf hkf' hka hx hxm hxok hrefc habv hfind
                go_upto_if 111 with (fail)
                go_cut [11] (fun v11 wc => Aside0 (dirAt out k x = true) ∧ Aside0 (RowS wc wo.heap.size ((out.take k).map (statR out) ++ List.replicate (out.length - k) z31)) ∧ Aside0 (RowN wc g c4 out) ∧ Aside0 (Below w.heap.size w wc))
                case first =>
                  by_cases hk0 : k = 0
                  · have HK0 := Aside0.mk hk0
                    have hd : decide ((0 : Int) < (k : Int)) = false := decide_eq_false (by omega)
                    have hd2 : decide (0 < k) = false := decide_eq_false (by omega)
                    have hd3 : ¬ (0 < k) := by omega
                    clear hk0
                    go_wp2
                    go_meet
                    case rel => exact ⟨⟨by unfold dirAt; rw [HK0.out]; rfl⟩, HS, HR, HB⟩
                  · have hd : decide ((0 : Int) < (k : Int)) = true := decide_eq_true (by omega)
                    have hd2 : decide (0 < k) = true := decide_eq_true (by omega)
                    have hd3 : 0 < k := by omega
                    have hki : ((k : Nat) == 0) = false := beq_eq_false_iff_ne.mpr hk0
                    have HKI := Aside0.mk hki
                    clear hk0 hki
                    obtain ⟨n0, n1, n2, n3, n4, n5, n6⟩ := HR.out.node k x HX.out
                    by_cases hf : findIx out (aboveB x.f0).data.toList = -1
                    · have HFIND' := HFIND.out
                      rw [hf] at HFIND'
                      have HDF : Aside0 (dirAt out k x = false) := ⟨by unfold dirAt; rw [HKI.out, hf]; cases out[(-1 : Int).toNat]? <;> rfl⟩
                      have HFIND'' := Aside0.mk HFIND'
                      clear hf HFIND'
                      go_wp2_with (first
                        | (go_at_call 17; refine (HABV.out _).mono ?_; rintro e w1 ⟨rfl, na, rfl⟩)
                        | (go_at_call 15; refine (HFIND''.out _ (HR.out.block (w' := wr.drewN na) rfl).reads).mono ?_; rintro e w2 ⟨rfl, hd2⟩; obtain ⟨nb, rfl⟩ := hd2.out))
                      go_ret2
                      first | exact ⟨_, 5, [], rfl, .inl ⟨rfl, rfl, .inr ⟨_, HK'.out, .inr ⟨HRT.out, by rw [← HC.out, HRC.out, HDF.out]; rfl⟩⟩⟩, Kd.R_nil _ _ _ _ _, pw_below_drewN HB.out _⟩ | exact ⟨_, 5, rfl, [], .inl ⟨rfl, rfl, .inr ⟨_, HK'.out, .inr ⟨HRT.out, by rw [← HC.out, HRC.out, HDF.out]; rfl⟩⟩⟩, Kd.R_nil _ _ _ _ _, pw_below_drewN HB.out _⟩
                    · obtain ⟨m, hm⟩ : ∃ m : Nat, findIx out (aboveB x.f0).data.toList = (m : Int) := ⟨(findIx out (aboveB x.f0).data.toList).toNat, by have := findIx_range out (aboveB x.f0).data.toList; omega⟩
                      have hmo : m < out.length := by have := findIx_range out (aboveB x.f0).data.toList; omega
                      have HFIND' := HFIND.out
                      rw [hm] at HFIND'
                      obtain ⟨y, hy⟩ : ∃ y, out[m]? = some y := ⟨_, List.getElem?_eq_getElem hmo⟩
                      have HDE : Aside0 (dirAt out k x = (kind y == 2)) := ⟨by unfold dirAt; rw [HKI.out, hm, Int.toNat_natCast, hy, show decide ((0 : Int) ≤ (m : Int)) = true from decide_eq_true (by omega)]; simp⟩
                      have HFIND'' := Aside0.mk HFIND'
                      have hm0 : decide ((m : Int) < 0) = false := decide_eq_false (by omega)
                      obtain ⟨p0, p1, p2, p3, p4, p5, p6⟩ := HR.out.node m y hy
                      clear hf HFIND' hm hy
                      by_cases hk2 : y.f1.f2 = 2
                      · have hk3 : (y.f1.f2 != 2) = false := bne_eq_false_iff_eq.mpr hk2
                        have hk4 : (y.f1.f2 == 2) = true := beq_iff_eq.mpr hk2
                        have HDD : Aside0 (dirAt out k x = true) := ⟨by rw [HDE.out]; exact hk4⟩
                        clear hk2
                        go_wp2_with (first
                          | (go_at_call 17; refine (HABV.out _).mono ?_; rintro e w1 ⟨rfl, na, rfl⟩)
                          | (go_at_call 15; refine (HFIND''.out _ (HR.out.block (w' := wr.drewN na) rfl).reads).mono ?_; rintro e w2 ⟨rfl, hd2⟩; obtain ⟨nb, rfl⟩ := hd2.out))
                        go_meet
                        case rel => exact ⟨HDD, ⟨HS.out.block rfl⟩, ⟨HR.out.block rfl⟩, ⟨pw_below_drewN HB.out _⟩⟩
                      · have hk3 : (y.f1.f2 != 2) = true := bne_iff_ne.mpr hk2
                        have hk4 : (y.f1.f2 == 2) = false := beq_eq_false_iff_ne.mpr hk2
                        have HDD : Aside0 (dirAt out k x = false) := ⟨by rw [HDE.out]; exact hk4⟩
                        clear hk2
                        go_wp2_with (first
                          | (go_at_call 17; refine (HABV.out _).mono ?_; rintro e w1 ⟨rfl, na, rfl⟩)
                          | (go_at_call 15; refine (HFIND''.out _ (HR.out.block (w' := wr.drewN na) rfl).reads).mono ?_; rintro e w2 ⟨rfl, hd2⟩; obtain ⟨nb, rfl⟩ := hd2.out))
                        go_ret2
                        first | exact ⟨_, 5, [], rfl, .inl ⟨rfl, rfl, .inr ⟨_, HK'.out, .inr ⟨HRT.out, by rw [← HC.out, HRC.out, HDD.out]; rfl⟩⟩⟩, Kd.R_nil _ _ _ _ _, pw_below_drewN HB.out _⟩ | exact ⟨_, 5, rfl, [], .inl ⟨rfl, rfl, .inr ⟨_, HK'.out, .inr ⟨HRT.out, by rw [← HC.out, HRC.out, HDD.out]; rfl⟩⟩⟩, Kd.R_nil _ _ _ _ _, pw_below_drewN HB.out _⟩
                case rest =>
                  obtain ⟨HDIR, HSc, HRc, HBc⟩ := hcut
                  clear HS HR HB HABV HFIND
                  go_wp2
                  go_loopw [12, 13, 14] (fun v12 v13 v14 wr => ∃ (j : Nat) (f lk : Int), v12 = .int .i64 f ∧ v13 = .int .i64 lk ∧ v14 = .int .i64 j ∧ j ≤ out.length ∧ Aside0 (f = firstIx (out.take j) (ino x) - 1) ∧ Aside0 (lk = cnt (out.take j) (ino x)) ∧ Aside0 (okFrom k x j (out.drop j) = okFrom k x 0 out) ∧ -1 ≤ f ∧ f < 1000000 ∧ 0 ≤ lk ∧ lk ≤ j ∧ Aside0 (∃ n, wr = wc.drewN n)) (fun _ _ v14 _ => out.length - (intOf v14).toNat)
                  case atStart => exact ⟨0, -1, 0, rfl, rfl, rfl, Nat.zero_le _, ⟨by simp [firstIx]⟩, ⟨by simp [cnt]⟩, ⟨by simp⟩, by omega, by omega, by omega, by omega, ⟨0, rfl⟩⟩
                  case round =>
                    obtain ⟨j, f, lk, rfl, rfl, rfl, hj, HF, HL, HOK, hf0, hf1, hl0, hl1, HW⟩ := hrel
                    obtain ⟨nw, hw⟩ := HW.out
                    subst hw
                    by_cases hjl : j < out.length
                    · obtain ⟨y, hy⟩ : ∃ y, out[j]? = some y := ⟨_, List.getElem?_eq_getElem hjl⟩
                      obtain ⟨n0, n1, n2, n3, n4, n5, n6⟩ := HRc.out.node k x HX.out
                      obtain ⟨p0, p1, p2, p3, p4, p5, p6⟩ := HRc.out.node j y hy
                      have HY := Aside0.mk hy
                      clear hy HW
                      by_cases hi : y.f1.f0 = x.f1.f0
                      · have hi1 : (y.f1.f0 != x.f1.f0) = false := bne_eq_false_iff_eq.mpr hi
                        have hi2 : (y.f1.f0 == x.f1.f0) = true := beq_iff_eq.mpr hi
                        have HI := Aside0.mk hi
                        clear hi
                        have hin : (ino y != ino x) = false := hi1
                        by_cases hjk : j = k
                        · have HTEST : Aside0 ((ino y != ino x || j == k || (kind y == 1 && kind x == 1 && dat y == dat x)) = true) := ⟨by rw [show (j == k) = true from beq_iff_eq.mpr hjk, Bool.or_true]; rfl⟩
                          have hj1 : ((j : Int) != (k : Int)) = false := bne_eq_false_iff_eq.mpr (by omega)
                          have hj2 : ((j : Int) == (k : Int)) = true := beq_iff_eq.mpr (by omega)
                          clear hjk hin
                          by_cases hfl : f < 0
                          · have hfd : decide (f < 0) = true := decide_eq_true hfl
                            have HFL := Aside0.mk hfl
                            clear hfl
                            go_wp2
                            go_quiet (fail)
                            go_wp2
                            go_quiet (fail)
                            go_wp2
                            go_roundw
                            case rel => exact ⟨j + 1, j, lk + 1, rfl, by go_num, by go_num, by omega, ⟨first_hit HF.out HY.out HI.out HFL.out⟩, ⟨cnt_hit HL.out HY.out HI.out⟩, ⟨ok_step HOK.out HY.out HTEST.out⟩, by omega, by omega, by omega, by omega, ⟨_, rfl⟩⟩
                            case measure => simp [intOf]; omega
                          · have hfd : decide (f < 0) = false := decide_eq_false hfl
                            have HFL := Aside0.mk hfl
                            clear hfl
                            go_wp2
                            go_quiet (fail)
                            go_wp2
                            go_quiet (fail)
                            go_wp2
                            go_roundw
                            case rel => exact ⟨j + 1, f, lk + 1, rfl, by go_num, by go_num, by omega, ⟨first_old HF.out HY.out (by have := HFL.out; omega)⟩, ⟨cnt_hit HL.out HY.out HI.out⟩, ⟨ok_step HOK.out HY.out HTEST.out⟩, by omega, by omega, by omega, by omega, ⟨_, rfl⟩⟩
                            case measure => simp [intOf]; omega
                        · have hjq : (j == k) = false := beq_eq_false_iff_ne.mpr hjk
                          have hj1 : ((j : Int) != (k : Int)) = true := bne_iff_ne.mpr (by omega)
                          have hj2 : ((j : Int) == (k : Int)) = false := beq_eq_false_iff_ne.mpr (by omega)
                          have tx := ByteArray.toList_eq x.f2
                          have ty := ByteArray.toList_eq y.f2
                          by_cases k2 : y.f1.f2 = 1
                          · have k2' : (y.f1.f2 != 1) = false := bne_eq_false_iff_eq.mpr k2
                            by_cases k1 : x.f1.f2 = 1
                            · have k1' : (x.f1.f2 != 1) = false := bne_eq_false_iff_eq.mpr k1
                              by_cases k3 : y.f2.data.toList = x.f2.data.toList
                              · have k3' : (y.f2.toList != x.f2.toList) = false := by rw [tx, ty]; exact bne_eq_false_iff_eq.mpr k3
                                have k3'' : (y.f2.toList == x.f2.toList) = true := by rw [tx, ty]; exact beq_iff_eq.mpr k3
                                have HTEST : Aside0 ((ino y != ino x || j == k || (kind y == 1 && kind x == 1 && dat y == dat x)) = true) := ⟨by rw [hin, hjq]; simp [kind, k1, k2, dat, k3]⟩
                                clear hjk hjq hin k1 k2 k3 tx ty
                                by_cases hfl : f < 0
                                · have hfd : decide (f < 0) = true := decide_eq_true hfl
                                  have HFL := Aside0.mk hfl
                                  clear hfl
                                  go_wp2
                                  go_quiet (fail)
                                  go_wp2
                                  go_quiet (fail)
                                  go_wp2
                                  go_roundw
                                  case rel => exact ⟨j + 1, j, lk + 1, rfl, by go_num, by go_num, by omega, ⟨first_hit HF.out HY.out HI.out HFL.out⟩, ⟨cnt_hit HL.out HY.out HI.out⟩, ⟨ok_step HOK.out HY.out HTEST.out⟩, by omega, by omega, by omega, by omega, ⟨_, rfl⟩⟩
                                  case measure => simp [intOf]; omega
                                · have hfd : decide (f < 0) = false := decide_eq_false hfl
                                  have HFL := Aside0.mk hfl
                                  clear hfl
                                  go_wp2
                                  go_quiet (fail)
                                  go_wp2
                                  go_quiet (fail)
                                  go_wp2
                                  go_roundw
                                  case rel => exact ⟨j + 1, f, lk + 1, rfl, by go_num, by go_num, by omega, ⟨first_old HF.out HY.out (by have := HFL.out; omega)⟩, ⟨cnt_hit HL.out HY.out HI.out⟩, ⟨ok_step HOK.out HY.out HTEST.out⟩, by omega, by omega, by omega, by omega, ⟨_, rfl⟩⟩
                                  case measure => simp [intOf]; omega
                              · have k3' : (y.f2.toList != x.f2.toList) = true := by rw [tx, ty]; exact bne_iff_ne.mpr k3
                                have k3'' : (y.f2.toList == x.f2.toList) = false := by rw [tx, ty]; exact beq_eq_false_iff_ne.mpr k3
                                have HTEST : Aside0 ((ino y != ino x || j == k || (kind y == 1 && kind x == 1 && dat y == dat x)) = false) := ⟨by rw [hin, hjq, show (dat y == dat x) = false from beq_eq_false_iff_ne.mpr k3, Bool.and_false]; rfl⟩
                                clear hjk hjq hin k1 k2 k3 tx ty
                                go_wp2
                                go_quiet (fail)
                                go_wp2
                                go_quiet (fail)
                                go_wp2
                                go_ret2
                                first | exact ⟨_, 5, [], rfl, .inl ⟨rfl, rfl, .inr ⟨_, HK'.out, .inr ⟨HRT.out, by rw [← HC.out, HRC.out, ok_stop HOK.out HY.out HTEST.out, Bool.and_false]; rfl⟩⟩⟩, Kd.R_nil _ _ _ _ _, pw_below_drewN (pw_below_drewN (pw_below_drewN HBc.out _) _) _⟩ | exact ⟨_, 5, rfl, [], .inl ⟨rfl, rfl, .inr ⟨_, HK'.out, .inr ⟨HRT.out, by rw [← HC.out, HRC.out, ok_stop HOK.out HY.out HTEST.out, Bool.and_false]; rfl⟩⟩⟩, Kd.R_nil _ _ _ _ _, pw_below_drewN (pw_below_drewN (pw_below_drewN HBc.out _) _) _⟩
                            · have k1' : (x.f1.f2 != 1) = true := bne_iff_ne.mpr k1
                              have HTEST : Aside0 ((ino y != ino x || j == k || (kind y == 1 && kind x == 1 && dat y == dat x)) = false) := ⟨by rw [hin, hjq]; simp [kind, k1]⟩
                              clear hjk hjq hin k1 k2 tx ty
                              go_wp2
                              go_quiet (fail)
                              go_wp2
                              go_quiet (fail)
                              go_wp2
                              go_ret2
                              first | exact ⟨_, 5, [], rfl, .inl ⟨rfl, rfl, .inr ⟨_, HK'.out, .inr ⟨HRT.out, by rw [← HC.out, HRC.out, ok_stop HOK.out HY.out HTEST.out, Bool.and_false]; rfl⟩⟩⟩, Kd.R_nil _ _ _ _ _, pw_below_drewN (pw_below_drewN (pw_below_drewN HBc.out _) _) _⟩ | exact ⟨_, 5, rfl, [], .inl ⟨rfl, rfl, .inr ⟨_, HK'.out, .inr ⟨HRT.out, by rw [← HC.out, HRC.out, ok_stop HOK.out HY.out HTEST.out, Bool.and_false]; rfl⟩⟩⟩, Kd.R_nil _ _ _ _ _, pw_below_drewN (pw_below_drewN (pw_below_drewN HBc.out _) _) _⟩
                          · have k2' : (y.f1.f2 != 1) = true := bne_iff_ne.mpr k2
                            have HTEST : Aside0 ((ino y != ino x || j == k || (kind y == 1 && kind x == 1 && dat y == dat x)) = false) := ⟨by rw [hin, hjq]; simp [kind, k2]⟩
                            clear hjk hjq hin k2 tx ty
                            go_wp2
                            go_quiet (fail)
                            go_wp2
                            go_quiet (fail)
                            go_wp2
                            go_ret2
                            first | exact ⟨_, 5, [], rfl, .inl ⟨rfl, rfl, .inr ⟨_, HK'.out, .inr ⟨HRT.out, by rw [← HC.out, HRC.out, ok_stop HOK.out HY.out HTEST.out, Bool.and_false]; rfl⟩⟩⟩, Kd.R_nil _ _ _ _ _, pw_below_drewN (pw_below_drewN (pw_below_drewN HBc.out _) _) _⟩ | exact ⟨_, 5, rfl, [], .inl ⟨rfl, rfl, .inr ⟨_, HK'.out, .inr ⟨HRT.out, by rw [← HC.out, HRC.out, ok_stop HOK.out HY.out HTEST.out, Bool.and_false]; rfl⟩⟩⟩, Kd.R_nil _ _ _ _ _, pw_below_drewN (pw_below_drewN (pw_below_drewN HBc.out _) _) _⟩
                      · have hi1 : (y.f1.f0 != x.f1.f0) = true := bne_iff_ne.mpr hi
                        have hi2 : (y.f1.f0 == x.f1.f0) = false := beq_eq_false_iff_ne.mpr hi
                        have HI := Aside0.mk hi
                        clear hi
                        go_wp2
                        go_quiet (fail)
                        go_wp2
                        go_roundw
                        case rel => exact ⟨j + 1, f, lk, rfl, rfl, by go_num, by omega, ⟨first_ne HF.out HY.out HI.out⟩, ⟨cnt_ne HL.out HY.out HI.out⟩, ⟨ok_step HOK.out HY.out (by rw [show (ino y != ino x) = true from hi1]; rfl)⟩, hf0, hf1, hl0, by omega, ⟨_, rfl⟩⟩
                        case measure => simp [intOf]; omega
                    · obtain rfl : j = out.length := by omega
                      have HFX : Aside0 (f = firstIx out (ino x) - 1) := ⟨by have := HF.out; rwa [List.take_length] at this⟩
                      have HLX : Aside0 (lk = cnt out (ino x)) := ⟨by have := HL.out; rwa [List.take_length] at this⟩
                      have HOX : Aside0 (okFrom k x 0 out = true) := ⟨by rw [← HOK.out, List.drop_length]; rfl⟩
                      have HNX : Aside0 (refC out (k + 1) (out.drop (k + 1)) = refC out 0 out) := ⟨by rw [← HC.out, HRC.out, HDIR.out, HOX.out]; rfl⟩
                      obtain ⟨n0, n1, n2, n3, n4, n5, n6⟩ := HRc.out.node k x HX.out
                      clear HF HL HOK HW hj hjl
                      go_wp2
                      obtain ⟨w2, hw2⟩ : ∃ w2 : World, w2 = (wc.drewN nw).drew := ⟨_, rfl⟩
                      have HW2 := Aside0.mk hw2
                      refine wp_region_still_tail 18 (by kernel_rfl) (by kernel_rfl) ?_
                      simp only [List.take_succ_cons, List.take_zero, List.drop_succ_cons, List.drop_zero]
                      change wpStill _ _ ((wc.drewN nw).drew) (fun a' => wpList _ _ _ _ _ ((wc.drewN nw).drew)) _ _
                      rw [← hw2]
                      have HR2 : Aside0 (RowN w2 g c4 out) := ⟨HRc.out.block (by rw [hw2]; rfl)⟩
                      have HS2 : Aside0 (RowS w2 wo.heap.size ((out.take k).map (statR out) ++ List.replicate (out.length - k) z31)) := ⟨HSc.out.block (by rw [hw2]; rfl)⟩
                      have HB2 : Aside0 (Below w.heap.size w w2) := ⟨by rw [hw2]; exact pw_below_drewN HBc.out (nw + 1)⟩
                      clear n0 n1 n2 n3 n4 n5 n6 hw2 HW2
                      obtain ⟨n0, n1, n2, n3, n4, n5, n6⟩ := HR2.out.node k x HX.out
                      iterate 18 (refine wpStill_step (fun K hK => ?_); go_simp; refine hK _ ?_; clear hK K)
                      refine wpStill_nil ?_
                      have hsx := HS2.out
                      obtain ⟨c0, c1, c2, c3, c4⟩ := hsx.cell k _ (stat_at hkl)
                      have z0 : w2.frozen? ⟨wo.heap.size, k * 5, none⟩ = false := hsx.frozen _
                      have z1 : w2.frozen? ⟨wo.heap.size, k * 5 + 1, none⟩ = false := hsx.frozen _
                      have z2 : w2.frozen? ⟨wo.heap.size, k * 5 + 2, none⟩ = false := hsx.frozen _
                      have z3 : w2.frozen? ⟨wo.heap.size, k * 5 + 3, none⟩ = false := hsx.frozen _
                      have z4 : w2.frozen? ⟨wo.heap.size, k * 5 + 4, none⟩ = false := hsx.frozen _
                      clear hsx
                      go_wp2
                      go_roundw
                      case rel =>
                        refine ⟨k + 1, by go_num, by omega, HNX, ?_, ?_, ?_⟩
                        · have h := HS2.out.set (i := k) (by simp; omega) (f + 1) 0 x.f1.f2 lk (x.f2.size : Int)
                          rw [stat_next HX.out HFX.out HLX.out] at h
                          exact ⟨h⟩
                        · exact ⟨HR2.out.block (statW_other w2 wo.heap.size (k * 5) (f + 1) 0 x.f1.f2 lk (x.f2.size : Int) _ (by omega))⟩
                        · exact ⟨statW_below HB2.out wo.heap.size (k * 5) (f + 1) 0 x.f1.f2 lk (x.f2.size : Int) hgs⟩
                      case measure => simp [intOf]; omega
              · obtain rfl : k = out.length := by omega
                have HCT : Aside0 (refC out 0 out = true) := ⟨by rw [← HC.out, List.drop_length]; rfl⟩
                have HST : Aside0 (RowS wr wo.heap.size (out.map (statR out))) := ⟨by have := HS.out; simpa using this⟩
                obtain ⟨wx, rfl⟩ : ∃ wx : World, wx = wr := ⟨_, rfl⟩
                clear HC HS hk hkl
                go_wp2
                go_loopw [15] (fun v15 wr => ∃ k : Nat, v15 = .int .i64 k ∧ k ≤ out.length ∧ Aside0 (RowS wr wo.heap.size (out.map (statR out))) ∧ Aside0 (RowN wr g c4 ((out.take k).map (labelR out) ++ out.drop k)) ∧ Aside0 (Below w.heap.size w wr)) (fun v15 _ => out.length - (intOf v15).toNat)
                case atStart => exact ⟨0, rfl, Nat.zero_le _, HST, ⟨by simpa using HR.out⟩, HB⟩
                case round =>
                  obtain ⟨k, rfl, hk, HS, HRk, HBk⟩ := hrel
                  by_cases hkl : k < out.length
                  · obtain ⟨x, hx⟩ : ∃ x, out[k]? = some x := ⟨_, List.getElem?_eq_getElem hkl⟩
                    have hx' : ((out.take k).map (labelR out) ++ out.drop k)[k]? = some x := by
                      rw [List.getElem?_append_right (by simp; omega)]
                      simp only [List.length_map, List.length_take]
                      rw [show k - min k out.length = 0 by omega, List.getElem?_drop, Nat.add_zero]; exact hx
                    have hsx := HS.out.cell k (statR out x) (by rw [List.getElem?_map, hx]; rfl)
                    have hlab := labelR_step hx
                    have HX' := Aside0.mk hx'
                    have hrw := HRk.out
                    obtain ⟨_, q1, q2, q3, q4, q5, _⟩ := hrw.node k x hx'
                    have q2 : wr.cell? ⟨g, k * 7 + 1 + 1, none⟩ = some (.int .i64 x.f1.f1) := q2
                    have q3 : wr.cell? ⟨g, k * 7 + 1 + 2, none⟩ = some (.int .i64 x.f1.f2) := q3
                    have q4 : wr.cell? ⟨g, k * 7 + 1 + 3, none⟩ = some (.int .i64 x.f1.f3) := q4
                    have q5 : wr.cell? ⟨g, k * 7 + 1 + 4, none⟩ = some (.int .i64 x.f1.f4) := q5
                    have z1 : wr.frozen? ⟨g, k * 7 + 1, none⟩ = false := hrw.frozen _
                    have z2 : wr.frozen? ⟨g, k * 7 + 1 + 1, none⟩ = false := hrw.frozen _
                    have z3 : wr.frozen? ⟨g, k * 7 + 1 + 2, none⟩ = false := hrw.frozen _
                    have z4 : wr.frozen? ⟨g, k * 7 + 1 + 3, none⟩ = false := hrw.frozen _
                    have z5 : wr.frozen? ⟨g, k * 7 + 1 + 4, none⟩ = false := hrw.frozen _
                    generalize statR out x = sx at hsx hlab
                    obtain ⟨e0, e1, e2, e3, e4⟩ := hsx
                    have HLAB := Aside0.mk hlab
                    clear hrw hx hx' hlab
                    go_wp2
                    go_roundw
                    case rel =>
                      refine ⟨k + 1, by go_num, by omega, ?_, ?_, ?_⟩
                      · exact ⟨HS.out.block (statW_other wr g (k * 7 + 1) sx.f0 sx.f1 sx.f2 sx.f3 sx.f4 _ (by omega))⟩
                      · have h := HRk.out.stat HX'.out sx.f0 sx.f1 sx.f2 sx.f3 sx.f4
                        rw [show (⟨x.f0, ⟨sx.f0, sx.f1, sx.f2, sx.f3, sx.f4⟩, x.f2⟩ : Nd) = ⟨x.f0, sx, x.f2⟩ from rfl, HLAB.out] at h
                        exact ⟨h⟩
                      · exact ⟨statW_below HBk.out g (k * 7 + 1) sx.f0 sx.f1 sx.f2 sx.f3 sx.f4 HBG.out⟩
                    case measure => simp [intOf]; omega
                  · obtain rfl : k = out.length := by omega
                    have hrow := HRk.out
                    rw [List.take_length, List.drop_length, List.append_nil] at hrow
                    have hmade := hrow.made HBG.out
                    rw [List.length_map] at hmade
                    have HMADE := Aside0.mk hmade
                    clear hrow hmade HRk
                    go_wp2
                    go_ret2
                    first | exact ⟨_, 0, _, rfl, .inr ⟨rfl, out, HK'.out, HRT.out, HCT.out, rfl⟩, HMADE.out, HBk.out⟩ | exact ⟨_, 0, rfl, _, .inr ⟨rfl, out, HK'.out, HRT.out, HCT.out, rfl⟩, HMADE.out, HBk.out⟩
          · have hk3 : (x.f1.f2 != 2) = true := bne_iff_ne.mpr hk2
            have hk4 : (x.f1.f2 == 2) = false := beq_eq_false_iff_ne.mpr hk2
            have HRT : Aside0 (rootB out = false) := ⟨by rw [HROOT.out, show (kind x == 2) = false from hk4, Bool.and_false]⟩
            clear hp hk2 tx HROOT
            go_wp2
            go_ret2
            first | exact ⟨_, 5, [], rfl, .inl ⟨rfl, rfl, .inr ⟨_, HK'.out, .inl HRT.out⟩⟩, Kd.R_nil _ _ _ _ _, HB.out⟩ | exact ⟨_, 5, rfl, [], .inl ⟨rfl, rfl, .inr ⟨_, HK'.out, .inl HRT.out⟩⟩, Kd.R_nil _ _ _ _ _, HB.out⟩
        · have hp1 : (x.f0.toList != [47]) = true := by rw [tx]; exact bne_iff_ne.mpr hp
          have hp2 : (x.f0.toList == [47]) = false := by rw [tx]; exact beq_eq_false_iff_ne.mpr hp
          have HRT : Aside0 (rootB out = false) := ⟨by rw [HROOT.out, show (pth x == [47]) = false from beq_eq_false_iff_ne.mpr hp]; rfl⟩
          clear hp tx HROOT
          go_wp2
          go_ret2
          first | exact ⟨_, 5, [], rfl, .inl ⟨rfl, rfl, .inr ⟨_, HK'.out, .inl HRT.out⟩⟩, Kd.R_nil _ _ _ _ _, HB.out⟩ | exact ⟨_, 5, rfl, [], .inl ⟨rfl, rfl, .inr ⟨_, HK'.out, .inl HRT.out⟩⟩, Kd.R_nil _ _ _ _ _, HB.out⟩
end Go.Proofs.YtiloadafnalhpaaDoor
