/-
  The walk of archive.Normal.
-/
import Derived.Test.YtiloadafnalhpaaDoorJ6
namespace Go.Proofs.YtiloadafnalhpaaDoor
open Go.RowKit Go.Proofs.YtiloadafnalhpaaDoorW.PrintWords Go.Proofs.YtiloadafnalhpaaDoorW.PrintLast Go.Proofs.YtiloadafnalhpaaDoorW.PrintMore
open Go.Proofs.YtiloadafnalhpaaDoor.PA Go.Shelf Go.Maps Go.ChangeMaps Go.WideMaps
set_option linter.unusedVariables false
set_option linter.unusedSimpArgs false

/-- What was read stands in the new row. -/
theorem row_of_append {w w0 w1 : World} {A : Option Addr} {l : List Nd} {g cap : Nat}
    (h : w1.ownsRow w0.heap.size 33 7 (.slice (some ⟨g, 0, none⟩) l.length cap) l.length (flatN l)) : RowN w1 g cap l := RowN.of_own h rfl
theorem reads_flat {w : World} {ad : Addr} {l : List Nd} (h : Kd.C k33 w (some ad) l.length l) : ∀ j u, (flatN l)[j]? = some u → w.cell? (ad.add j) = some u := by
  obtain ⟨inner, hr, hc⟩ := ReadsRow.inner_ h
  rw [reps_flat (fun x c hx => k33_open hx) hr] at hc
  exact hc
theorem info33 : (Tryd.prog.info? 33).map (fun i => (i.zero, i.size, i.bytes)) = some (some (.agg #[.string ⟨#[]⟩, .int .i64 0, .int .i64 0, .int .i64 0, .int .i64 0, .int .i64 0, .string ⟨#[]⟩]), 7, 72) := by kernel_rfl
theorem flatN_one (l : List Nd) : ∀ u ∈ flatN l, u.oneCell' = true := by
  intro u hu
  obtain ⟨x, hx, hu⟩ := List.mem_flatMap.1 hu
  exact encN_one x u hu

theorem own_form {w : World} {base n : Nat} {v : Value} {xs : List Value} (h : w.ownsRow base 33 7 v n xs) (hn : v ≠ .slice none 0 0) : ∃ g cap, v = .slice (some ⟨g, 0, none⟩) n cap ∧ base ≤ g := by
  rcases h.2 with ⟨e, _⟩ | ⟨g, cap, cur, e, hb, _⟩
  · exact absurd e hn
  · exact ⟨g, cap, e, hb⟩

set_option maxHeartbeats 16000000 in
set_option maxRecDepth 100000 in
theorem normal_calls (A : Option Addr) (c : Nat) (l : List Nd) (w : World) (hr : Kd.C k33 w A l.length l) (hc : l.length ≤ c) (hl : l.length ≤ 1000000) (hg : ∀ n ∈ l, GoodN n) (hM : MaxCell w) (hw0 : 0 < w.heap.size) :
    Calls Tryd.prog 5 #[.slice A l.length c] w fun e w' => ∃ (v : Value) (er : Int) (r : List Nd), e = .returned (.tuple #[v, .int .i64 er]) ∧ NormR l er r ∧ Kd.R k33 33 w' w.heap.size (fun _ => True) v r ∧ Below w.heap.size w w' := by
  have HG := Aside0.mk hg
  have HC := Aside0.mk hr
  have HM := Aside0.mk hM
  clear hg hr hM
  go_enter Tryd.func5, Tryd.ntmps5
  go_upto_region 1 with (fail)
  go_cut [4] (fun v4 wc => ∃ (g cap : Nat), v4 = .slice (some ⟨g, 0, none⟩) l.length cap ∧ Aside0 (w.heap.size ≤ g) ∧ Aside0 (RowN wc g cap l) ∧ Aside0 (Below w.heap.size w wc))
  case first =>
    obtain ⟨i0, hi, hz0, hz1, hz2⟩ := info_parts info33
    have hown0 : (w.alloc (.cells #[] 33)).ownsRow w.heap.size 33 7 (.slice (some ⟨w.heap.size, 0, none⟩) 0 0) 0 [] :=
      ⟨rfl, .inr ⟨w.heap.size, 0, #[], rfl, Nat.le_refl _, blk_new _ _, Nat.le_refl _, by unfold maxLen; omega, rfl, rfl⟩⟩
    by_cases hl0 : l = []
    · subst hl0
      have hR : RowN (w.alloc (.cells #[] 33)) w.heap.size 0 [] := RowN.of_own hown0 rfl
      have HR := Aside0.mk hR
      clear hR HC
      cases A with
      | none =>
        go_wp2_with (at_builtin; refine wpList_append_own_none rfl _ _ 22 rfl w.heap.size 33 i0 7 Tryd.underlying22 hi _ 0 [] rfl hown0 rfl ?_)
        go_meet
        case rel => exact ⟨_, _, rfl, ⟨Nat.le_refl _⟩, HR, ⟨(Below.refl _ _).alloc (Nat.le_refl _) _⟩⟩
      | some ad =>
        go_wp2_with (at_builtin; refine wpList_append_own _ rfl _ _ 22 rfl w.heap.size 33 i0 _ 7 72 Tryd.underlying22 hi hz0 hz1 hz2 rfl (by decide) _ 0 [] rfl hown0 ad 0 c [] rfl rfl (fun j u h => by simp at h) (fun u h => by simp at h) (by unfold maxLen; omega) (by omega) (by simp) ?_; intro v1 w1 hown1 hg1 hnil1; have H1 := Aside0.mk hown1; have H2 := Aside0.mk hg1; have H3 := Aside0.mk hnil1; clear hown1 hg1 hnil1)
        go_meet
        case rel =>
          obtain ⟨g, cap, hv1, hbg⟩ := own_form H1.out (fun e => by have h := (H3.out.1 e).1; injection h with h; cases h)
          subst hv1
          have h1 := H1.out
          rw [Nat.zero_add, List.nil_append] at h1
          exact ⟨g, cap, by simp, ⟨hbg⟩, ⟨RowN.of_own h1 rfl⟩, ⟨((Below.refl w.heap.size w).alloc (Nat.le_refl _) _).grown H2.out (by simp) (fun j hj => own_base hown0 j hj)⟩⟩
    · have hlp : 0 < l.length := List.length_pos_iff.mpr hl0
      obtain ⟨ad, hA⟩ : ∃ ad, A = some ad := by obtain ⟨ad, e, _⟩ := HC.out.2.2 hlp; exact ⟨ad, e⟩
      subst hA
      clear hl0
      have hcell : ∀ j u, (flatN l)[j]? = some u → (w.alloc (.cells #[] 33)).cell? (ad.add j) = some u := fun j u hu => pw_cell_below ((Below.refl _ _).alloc (Nat.le_refl _) _) (reads_flat HC.out j u hu)
      have HCE := Aside0.mk hcell
      clear hcell
      go_wp2_with (at_builtin; go_loud (refine wpList_append_own _ rfl _ _ 22 rfl w.heap.size 33 i0 _ 7 72 Tryd.underlying22 hi hz0 hz1 hz2 rfl (by decide) _ 0 [] rfl hown0 ad l.length c (flatN l) rfl (flatN_length l) HCE.out (flatN_one l) (by unfold maxLen; omega) (by omega) (by simp) ?_); intro v1 w1 hown1 hg1 hnil1; have H1 := Aside0.mk hown1; have H2 := Aside0.mk hg1; have H3 := Aside0.mk hnil1; clear hown1 hg1 hnil1)
      go_meet
      case rel =>
        obtain ⟨g, cap, hv1, hbg⟩ := own_form H1.out (fun e => by have h := (H3.out.1 e).1; injection h with h; cases h)
        subst hv1
        have h1 := H1.out
        rw [Nat.zero_add, List.nil_append] at h1
        exact ⟨g, cap, by simp, ⟨hbg⟩, ⟨RowN.of_own h1 rfl⟩, ⟨((Below.refl w.heap.size w).alloc (Nat.le_refl _) _).grown H2.out (by simp) (fun j hj => own_base hown0 j hj)⟩⟩
  case rest =>
    obtain ⟨g, cap, rfl, HBG, HR, HB⟩ := hcut
    have HCs : Aside0 (w.heap.size ≤ wc.heap.size) := ⟨HB.out.size⟩
    have HMc : Aside0 (MaxCell wc) := ⟨HM.out.below HB.out⟩
    go_wp2
    go_loopw [20] (fun i wr => ∃ k : Nat, i = .int .i64 k ∧ k ≤ l.length ∧ Aside0 (∀ n ∈ l.take k, mayN n = true) ∧ Aside0 (Below wc.heap.size wc wr)) (fun i _ => l.length - (intOf i).toNat)
    case atStart => exact ⟨0, rfl, Nat.zero_le _, ⟨fun n hn => by simp at hn⟩, ⟨Below.refl _ _⟩⟩
    case round =>
      obtain ⟨k, rfl, hk, HK, HBr⟩ := hrel
      by_cases hkl : k < l.length
      · obtain ⟨x, hx⟩ : ∃ x, l[k]? = some x := ⟨_, List.getElem?_eq_getElem hkl⟩
        obtain ⟨n0, n1, n2, n3, n4, n5, n6⟩ := (HR.out.below HBr.out).node k x hx
        have hxg := HG.out x (List.mem_of_getElem? hx)
        have HX := Aside0.mk hx
        have hM1 : MaxCell (wr.alloc (.cells #[.string x.f0, .int .i64 x.f1.f0, .int .i64 x.f1.f1, .int .i64 x.f1.f2, .int .i64 x.f1.f3, .int .i64 x.f1.f4, .string x.f2] 33)) := (HMc.out.below HBr.out).below ((Below.refl _ _).alloc (Nat.le_refl _) _)
        have hcon := may_calls x.f0 x.f2 x.f1.f0 x.f1.f1 x.f1.f2 x.f1.f3 x.f1.f4 _ (by have := hxg.1; omega) (by have := hxg.2.1; omega) hM1 (by simp)
        change Calls Tryd.prog 9 _ _ (fun e w' => e = .returned (.bool (mayN x)) ∧ _) at hcon
        have HCON := Aside0.mk hcon
        clear hx hxg hM1 hcon
        cases hm : mayN x with
        | true =>
          rw [hm] at HCON
          have HMX := Aside0.mk hm
          clear hm
          go_wp2_with (go_at_call 9; refine HCON.out.mono ?_; rintro e w1 ⟨rfl, hb1⟩; have HB1 := Aside0.mk hb1; clear hb1)
          go_roundw
          case rel =>
            refine ⟨k + 1, by go_num, by omega, ⟨fun n hn => ?_⟩, ⟨below_then HBr.out HBr.out.size (box_below HB1.out)⟩⟩
            rw [take_snoc_nd HX.out] at hn
            rcases List.mem_append.1 hn with hn | hn
            · exact HK.out n hn
            · rw [List.mem_singleton.1 hn]; exact HMX.out
          case measure => simp [intOf]; omega
        | false =>
          rw [hm] at HCON
          have HMX := Aside0.mk hm
          clear hm
          go_wp2_with (go_at_call 9; refine HCON.out.mono ?_; rintro e w1 ⟨rfl, hb1⟩; have HB1 := Aside0.mk hb1; clear hb1)
          go_ret2
          refine ⟨_, 5, [], rfl, .inl ⟨rfl, rfl, .inl ⟨x, List.mem_of_getElem? HX.out, HMX.out⟩⟩, Kd.R_nil _ _ _ _ _, ?_⟩
          exact below_then HB.out HB.out.size (below_then HBr.out HBr.out.size (box_below HB1.out))
      · obtain rfl : k = l.length := by omega
        have HMAY : Aside0 (∀ n ∈ l, mayN n = true) := ⟨by have := HK.out; rwa [List.take_length] at this⟩
        have hR2 := HR.out.below HBr.out
        have hsort := sort_calls hR2 (fun n hn => mayN_ok (HMAY.out n hn)) hl
        have HSO := Aside0.mk hsort
        clear hsort hR2 HK
        go_wp2_with (first
          | (go_at_call 10; refine HSO.out.mono ?_; rintro e w2 ⟨rfl, hs⟩; have HS2 := Aside0.mk hs; clear hs))
        obtain ⟨s, hp, hso, hr2, hg2⟩ := HS2.out
        have hlen : s.length = l.length := hp.length_eq
        have hmem : ∀ n ∈ s, n ∈ l := fun n hn => hp.mem_iff.1 hn
        have hpl := placed_calls hr2 (fun n hn => mayN_ok (HMAY.out n (hmem n hn))) (fun n hn => mayN_above (HMAY.out n (hmem n hn))) (by omega)
        rw [hlen] at hpl
        have HPL := Aside0.mk hpl
        have HP := Aside0.mk hp
        have HSORT := Aside0.mk hso
        have HR2 := Aside0.mk hr2
        have HLEN := Aside0.mk hlen
        have HB2 : Aside0 (Below w.heap.size w w2) := ⟨(below_then HB.out HB.out.size HBr.out).grown hg2 (by have := HB.out.size; have := HBr.out.size; omega) (fun j hj => by injection hj with hj; rw [← hj]; exact HBG.out)⟩
        clear hpl hp hso hr2 hg2 hlen hmem HS2 HSO HBr HR HMc HCs HB
        cases hpb : placedB s with
        | false =>
          rw [hpb] at HPL
          have HPB := Aside0.mk hpb
          clear hpb
          refine HPL.out.mono ?_
          rintro e w3 ⟨rfl, hb3⟩
          have HB3 := Aside0.mk hb3
          clear hb3
          go_wp2
          go_ret2
          refine ⟨_, 5, [], rfl, .inl ⟨rfl, rfl, .inr ⟨HMAY.out, s, HP.out, HSORT.out, .inl HPB.out⟩⟩, Kd.R_nil _ _ _ _ _, ?_⟩
          exact below_then HB2.out HB2.out.size HB3.out
        | true =>
          rw [hpb] at HPL
          have HPB := Aside0.mk hpb
          clear hpb
          refine HPL.out.mono ?_
          rintro e w3 ⟨rfl, hb3⟩
          have HR3 : Aside0 (RowN w3 g cap s) := ⟨HR2.out.below hb3⟩
          have HB3 : Aside0 (Below w.heap.size w w3) := ⟨below_then HB2.out HB2.out.size hb3⟩
          have hmm := @run_makeMap Tryd.prog
          clear hb3 HPL HR2 HB2
          go_wp2
          go_loopw [37] (fun i wr => ∃ k : Nat, i = .int .i64 k ∧ k ≤ l.length ∧ Aside0 (inoFrom (s.take k) (s.drop k) = inoB s) ∧ Aside0 (MapI wr 3 w3.heap.size k (firstK (s.take k))) ∧ Aside0 (MapI wr 3 (w3.heap.size + 1) k (linksK (s.take k))) ∧ Aside0 (Below w3.heap.size w3 wr)) (fun i _ => l.length - (intOf i).toNat)
          case atStart =>
            have m1 : MapI ((w3.alloc (.map #[] 0)).alloc (.map #[] 0)) 3 w3.heap.size 0 (fun _ => 0) := (MapI.made w3 _).below ((Below.refl _ _).alloc (Nat.le_refl _) _)
            have m2 : MapI ((w3.alloc (.map #[] 0)).alloc (.map #[] 0)) 3 (w3.heap.size + 1) 0 (fun _ => 0) := by have := MapI.made (w3.alloc (.map #[] 0)) 3; simpa using this
            exact ⟨0, rfl, Nat.zero_le _, ⟨by simp [inoB]⟩, ⟨m1.congr (fun k _ => by rw [List.take_zero, firstK_nil])⟩, ⟨m2.congr (fun k _ => by rw [List.take_zero, linksK_nil])⟩, ⟨((Below.refl _ _).alloc (Nat.le_refl _) _).alloc (by simp) _⟩⟩
          case round =>
            obtain ⟨k, rfl, hk, HK, HM1, HM2, HBr⟩ := hrel
            by_cases hkl : k < l.length
            · obtain ⟨x, hx⟩ : ∃ x, s[k]? = some x := ⟨_, List.getElem?_eq_getElem (by have := HLEN.out; omega)⟩
              obtain ⟨n0, n1, n2, n3, n4, n5, n6⟩ := (HR3.out.below HBr.out).node k x hx
              have hxg := HG.out x (HP.out.mem_iff.1 (List.mem_of_getElem? hx))
              have HX := Aside0.mk hx
              have hki : keyOf Tryd.prog 3 (.int .i64 x.f1.f0) = some (.int .i64 x.f1.f0) := keyInt _ (WalkArith.wf_i64 (by have := hxg.2.2; omega))
              have hfr := firstIx_range (s.take k) (ino x)
              have hfr2 : firstIx (s.take k) (ino x) ≤ k := by have := hfr.2; simp at this; omega
              have hM1 : MapI (wr.alloc (.cells #[.string x.f0, .int .i64 x.f1.f0, .int .i64 x.f1.f1, .int .i64 x.f1.f2, .int .i64 x.f1.f3, .int .i64 x.f1.f4, .string x.f2] 33)) 3 w3.heap.size k (firstK (s.take k)) := HM1.out.below ((Below.refl _ _).alloc (Nat.le_refl _) _)
              have hM2 : MapI (wr.alloc (.cells #[.string x.f0, .int .i64 x.f1.f0, .int .i64 x.f1.f1, .int .i64 x.f1.f2, .int .i64 x.f1.f3, .int .i64 x.f1.f4, .string x.f2] 33)) 3 (w3.heap.size + 1) k (linksK (s.take k)) := HM2.out.below ((Below.refl _ _).alloc (Nat.le_refl _) _)
              have hl0 : (Instr.lookup 38 (.map (some w3.heap.size)) (.int .i64 x.f1.f0) false).run Tryd.prog (wr.alloc (.cells #[.string x.f0, .int .i64 x.f1.f0, .int .i64 x.f1.f1, .int .i64 x.f1.f2, .int .i64 x.f1.f3, .int .i64 x.f1.f4, .string x.f2] 33)) = .ok (.int .i64 (firstIx (s.take k) (ino x))) (wr.alloc (.cells #[.string x.f0, .int .i64 x.f1.f0, .int .i64 x.f1.f1, .int .i64 x.f1.f2, .int .i64 x.f1.f3, .int .i64 x.f1.f4, .string x.f2] 33)) := hM1.look kInt Tryd.underlying38 hki trivial
              have hfn := first_next hx
              have HBX : Aside0 (Below w3.heap.size w3 (wr.alloc (.cells #[.string x.f0, .int .i64 x.f1.f0, .int .i64 x.f1.f1, .int .i64 x.f1.f2, .int .i64 x.f1.f3, .int .i64 x.f1.f4, .string x.f2] 33))) := ⟨HBr.out.alloc HBr.out.size _⟩
              have hszr : w3.heap.size ≤ wr.heap.size := HBr.out.size
              have hlt1 := HM1.out.lt
              have hlt2 := HM2.out.lt
              by_cases hf : firstIx (s.take k) (ino x) = 0
              · rw [hf] at hl0
                rw [if_pos hf] at hfn
                obtain ⟨w4, hrun4, hM4, hg4⟩ := hM1.put kInt Tryd.underlying38 (by unfold maxLen; omega) hki trivial ((k : Int) + 1) (WalkArith.wf_i64 (by omega))
                have hM4' := hM4.congr (fun kk _ => firstK_new hx hf kk)
                have hL4 : MapI w4 3 (w3.heap.size + 1) k (linksK (s.take k)) := hM2.grown hg4 (by simp)
                have hc4 : w4.cell? ⟨wr.heap.size, 1, none⟩ = some (.int .i64 x.f1.f0) := by
                  rw [World.cell?_of_block (w := (wr.alloc (.cells #[.string x.f0, .int .i64 x.f1.f0, .int .i64 x.f1.f1, .int .i64 x.f1.f2, .int .i64 x.f1.f3, .int .i64 x.f1.f4, .string x.f2] 33))) (hg4.block _ (by simp) (by simp; omega)), blk_cell (t := 33) (blk_new _ _) 1]; rfl
                have hl4 : (Instr.lookup 38 (.map (some w3.heap.size)) (.int .i64 x.f1.f0) false).run Tryd.prog w4 = .ok (.int .i64 ((k : Int) + 1)) w4 := by
                  have := hM4'.look kInt Tryd.underlying38 hki trivial
                  have e : firstK (s.take (k + 1)) (.int .i64 x.f1.f0) = (k : Int) + 1 := hfn
                  rw [e] at this; exact this
                have hki2 : keyOf Tryd.prog 3 (.int .i64 ((k : Int) + 1)) = some (.int .i64 ((k : Int) + 1)) := keyInt _ (WalkArith.wf_i64 (by omega))
                have hl5 : (Instr.lookup 38 (.map (some (w3.heap.size + 1))) (.int .i64 ((k : Int) + 1)) false).run Tryd.prog w4 = .ok (.int .i64 (links (s.take k) ((k : Int) + 1))) w4 := hL4.look kInt Tryd.underlying38 hki2 trivial
                have hlr := links_range (s.take k) ((k : Int) + 1)
                have hlr1 : links (s.take k) ((k : Int) + 1) ≤ 1000000 := by have := hlr.2; simp at this; omega
                have hlr0 := hlr.1
                obtain ⟨w5, hrun5, hM5, hg5⟩ := hL4.put kInt Tryd.underlying38 (by unfold maxLen; omega) hki2 trivial (links (s.take k) ((k : Int) + 1) + 1) (WalkArith.wf_i64 (by omega))
                have HM5 : Aside0 (MapI w5 3 (w3.heap.size + 1) (k + 1) (linksK (s.take (k + 1)))) := ⟨hM5.congr (fun kk _ => linksK_next hx hfn kk)⟩
                have HM6 : Aside0 (MapI w5 3 w3.heap.size (k + 1) (firstK (s.take (k + 1)))) := ⟨hM4'.grown hg5 (by simp)⟩
                have hs4 : w3.heap.size ≤ w4.heap.size := by have := hg4.size; simp at this; omega
                have HB5 : Aside0 (Below w3.heap.size w3 w5) := ⟨(HBX.out.grown hg4 (by simp; omega) (fun j hj => by injection hj with hj; omega)).grown hg5 hs4 (fun j hj => by injection hj with hj; omega)⟩
                have HAT : Aside0 (inoAt (s.take k) x = true) := ⟨inoAt_new hf⟩
                generalize links (s.take k) ((k : Int) + 1) = lk at hl5 hlr1 hlr0 hrun5
                clear hx hxg hM1 hM2 hM4 hM4' hL4 hM5 hg4 hg5 hfr hfr2 hfn hf hlr hki hki2 hs4
                go_wp2
                go_roundw
                case rel => exact ⟨k + 1, by go_num, by omega, ⟨ino_step HX.out HK.out HAT.out⟩, HM6, HM5, HB5⟩
                case measure => simp [intOf]; omega
              · obtain ⟨m, hm⟩ : ∃ m : Nat, firstIx (s.take k) (ino x) = (m : Int) + 1 := ⟨(firstIx (s.take k) (ino x) - 1).toNat, by omega⟩
                have hmk : m < k := by omega
                obtain ⟨y, hy⟩ : ∃ y, s[m]? = some y := ⟨_, List.getElem?_eq_getElem (by have := HLEN.out; omega)⟩
                obtain ⟨p0, p1, p2, p3, p4, p5, p6⟩ := ((HR3.out.below HBr.out).below (w' := (wr.alloc (.cells #[.string x.f0, .int .i64 x.f1.f0, .int .i64 x.f1.f1, .int .i64 x.f1.f2, .int .i64 x.f1.f3, .int .i64 x.f1.f4, .string x.f2] 33))) ((Below.refl _ _).alloc (Nat.le_refl _) _)).node m y hy
                have HAT := Aside0.mk (inoAt_old (b := s.take k) (x := x) (y := y) hm (by rw [List.getElem?_take, if_pos hmk]; exact hy))
                have hfo := fun kk => firstK_old hx hf kk
                rw [if_neg hf, hm] at hfn
                rw [hm] at hl0
                have hz : (((m : Int) + 1) == 0) = false := beq_eq_false_iff_ne.mpr (by omega)
                have tx := ByteArray.toList_eq x.f2
                have ty := ByteArray.toList_eq y.f2
                by_cases k1 : x.f1.f2 = 1
                · have k1' : (x.f1.f2 != 1) = false := bne_eq_false_iff_eq.mpr k1
                  by_cases k2 : y.f1.f2 = 1
                  · have k2' : (y.f1.f2 != 1) = false := bne_eq_false_iff_eq.mpr k2
                    by_cases k3 : y.f2.data.toList = x.f2.data.toList
                    · have k3' : (y.f2.toList != x.f2.toList) = false := by rw [tx, ty]; exact bne_eq_false_iff_eq.mpr k3
                      have k3'' : (y.f2.toList == x.f2.toList) = true := by rw [tx, ty]; exact beq_iff_eq.mpr k3
                      have HATT : Aside0 (inoAt (s.take k) x = true) := ⟨by rw [HAT.out]; simp [kind, k1, k2, dat, k3]⟩
                      have hki2 : keyOf Tryd.prog 3 (.int .i64 ((m : Int) + 1)) = some (.int .i64 ((m : Int) + 1)) := keyInt _ (WalkArith.wf_i64 (by omega))
                      have hl1 : ∀ nq, (Instr.lookup 38 (.map (some w3.heap.size)) (.int .i64 x.f1.f0) false).run Tryd.prog ((wr.alloc (.cells #[.string x.f0, .int .i64 x.f1.f0, .int .i64 x.f1.f1, .int .i64 x.f1.f2, .int .i64 x.f1.f3, .int .i64 x.f1.f4, .string x.f2] 33)).drewN nq) = .ok (.int .i64 ((m : Int) + 1)) ((wr.alloc (.cells #[.string x.f0, .int .i64 x.f1.f0, .int .i64 x.f1.f1, .int .i64 x.f1.f2, .int .i64 x.f1.f3, .int .i64 x.f1.f4, .string x.f2] 33)).drewN nq) := by
                        intro nq
                        have h := (hM1.drewN nq).look kInt Tryd.underlying38 hki trivial
                        have e : firstK (s.take k) (.int .i64 x.f1.f0) = (m : Int) + 1 := hm
                        rw [e] at h; exact h
                      have hl5 : ∀ nq, (Instr.lookup 38 (.map (some (w3.heap.size + 1))) (.int .i64 ((m : Int) + 1)) false).run Tryd.prog ((wr.alloc (.cells #[.string x.f0, .int .i64 x.f1.f0, .int .i64 x.f1.f1, .int .i64 x.f1.f2, .int .i64 x.f1.f3, .int .i64 x.f1.f4, .string x.f2] 33)).drewN nq) = .ok (.int .i64 (links (s.take k) ((m : Int) + 1))) ((wr.alloc (.cells #[.string x.f0, .int .i64 x.f1.f0, .int .i64 x.f1.f1, .int .i64 x.f1.f2, .int .i64 x.f1.f3, .int .i64 x.f1.f4, .string x.f2] 33)).drewN nq) := fun nq => (hM2.drewN nq).look kInt Tryd.underlying38 hki2 trivial
                      have hlr := links_range (s.take k) ((m : Int) + 1)
                      have hlr1 : links (s.take k) ((m : Int) + 1) ≤ 1000000 := by have := hlr.2; simp at this; omega
                      have hlr0 := hlr.1
                      have hput : ∀ nq, ∃ w5, (Instr.mapUpdate 38 (.map (some (w3.heap.size + 1))) (.int .i64 ((m : Int) + 1)) (.int .i64 (links (s.take k) ((m : Int) + 1) + 1))).run Tryd.prog ((wr.alloc (.cells #[.string x.f0, .int .i64 x.f1.f0, .int .i64 x.f1.f1, .int .i64 x.f1.f2, .int .i64 x.f1.f3, .int .i64 x.f1.f4, .string x.f2] 33)).drewN nq) = .ok () w5 ∧ Aside0 (MapI w5 3 (w3.heap.size + 1) (k + 1) (linksK (s.take (k + 1)))) ∧ Aside0 (MapI w5 3 w3.heap.size (k + 1) (firstK (s.take (k + 1)))) ∧ Aside0 (Below w3.heap.size w3 w5) := by
                        intro nq
                        obtain ⟨w5, hrun5, hM5, hg5⟩ := (hM2.drewN nq).put kInt Tryd.underlying38 (by unfold maxLen; omega) hki2 trivial (links (s.take k) ((m : Int) + 1) + 1) (WalkArith.wf_i64 (by omega))
                        exact ⟨w5, hrun5, ⟨hM5.congr (fun kk _ => linksK_next hx hfn kk)⟩, ⟨(((hM1.drewN nq).grown hg5 (by simp)).mono (Nat.le_succ _)).congr (fun kk _ => hfo kk)⟩, ⟨(pw_below_drewN HBX.out nq).grown hg5 (by simp; omega) (fun j hj => by injection hj with hj; omega)⟩⟩
                      generalize links (s.take k) ((m : Int) + 1) = lk at hl5 hlr1 hlr0 hput
                      have HPU := Aside0.mk hput
                      have HL1 := Aside0.mk hl1
                      have HL5 := Aside0.mk hl5
                      clear hx hxg hM1 hM2 hfr hfr2 hfn hf hlr hki hki2 hput hl1 hl5 tx ty k1 k2 k3 hfo hy hm
                      go_wp2
                      go_quiet (fail)
                      have hl1 := HL1.out nq
                      have hl5 := HL5.out nq
                      obtain ⟨w5, hrun5, HM5, HM6, HB5⟩ := HPU.out nq
                      go_wp2
                      go_roundw
                      case rel => exact ⟨k + 1, by go_num, by omega, ⟨ino_step HX.out HK.out HATT.out⟩, HM6, HM5, HB5⟩
                      case measure => simp [intOf]; omega
                    · have k3' : (y.f2.toList != x.f2.toList) = true := by rw [tx, ty]; exact bne_iff_ne.mpr k3
                      have k3'' : (y.f2.toList == x.f2.toList) = false := by rw [tx, ty]; exact beq_eq_false_iff_ne.mpr k3
                      have HF : Aside0 (inoAt (s.take k) x = false) := ⟨by rw [HAT.out, show (dat y == dat x) = false from beq_eq_false_iff_ne.mpr k3, Bool.and_false]⟩
                      clear hx hxg hM1 hM2 hfr hfr2 hfn hf hki tx ty k1 k2 k3 hfo hy hm
                      go_wp2
                      go_quiet (fail)
                      go_wp2
                      go_ret2
                      refine ⟨_, 5, [], rfl, .inl ⟨rfl, rfl, .inr ⟨HMAY.out, s, HP.out, HSORT.out, .inr ⟨HPB.out, ino_false HX.out HK.out HF.out⟩⟩⟩, Kd.R_nil _ _ _ _ _, ?_⟩
                      exact pw_below_drewN (below_then HB3.out HB3.out.size HBX.out) _
                  · have k2' : (y.f1.f2 != 1) = true := bne_iff_ne.mpr k2
                    have HF : Aside0 (inoAt (s.take k) x = false) := ⟨by rw [HAT.out]; simp [kind, k2]⟩
                    clear hx hxg hM1 hM2 hfr hfr2 hfn hf hki tx ty k1 k2 hfo hy hm
                    go_wp2
                    go_quiet (fail)
                    go_wp2
                    go_ret2
                    refine ⟨_, 5, [], rfl, .inl ⟨rfl, rfl, .inr ⟨HMAY.out, s, HP.out, HSORT.out, .inr ⟨HPB.out, ino_false HX.out HK.out HF.out⟩⟩⟩, Kd.R_nil _ _ _ _ _, ?_⟩
                    exact pw_below_drewN (below_then HB3.out HB3.out.size HBX.out) _
                · have k1' : (x.f1.f2 != 1) = true := bne_iff_ne.mpr k1
                  have HF : Aside0 (inoAt (s.take k) x = false) := ⟨by rw [HAT.out]; simp [kind, k1]⟩
                  clear hx hxg hM1 hM2 hfr hfr2 hfn hf hki tx ty k1 hfo hy hm
                  go_wp2
                  go_quiet (fail)
                  go_wp2
                  go_ret2
                  refine ⟨_, 5, [], rfl, .inl ⟨rfl, rfl, .inr ⟨HMAY.out, s, HP.out, HSORT.out, .inr ⟨HPB.out, ino_false HX.out HK.out HF.out⟩⟩⟩, Kd.R_nil _ _ _ _ _, ?_⟩
                  exact pw_below_drewN (below_then HB3.out HB3.out.size HBX.out) _
            · obtain rfl : k = l.length := by omega
              have HIB : Aside0 (inoB s = true) := ⟨by rw [← HK.out, ← HLEN.out, List.drop_length]; rfl⟩
              obtain ⟨wz, rfl⟩ : ∃ wz : World, wz = wr := ⟨_, rfl⟩
              have e1 : s.take l.length = s := by rw [← HLEN.out, List.take_length]
              have HZ1 : Aside0 (MapI wz 3 w3.heap.size l.length (firstK s)) := ⟨by have := HM1.out; rwa [e1] at this⟩
              have HZ2 : Aside0 (MapI wz 3 (w3.heap.size + 1) l.length (linksK s)) := ⟨by have := HM2.out; rwa [e1] at this⟩
              have HZR : Aside0 (RowN wz g cap s) := ⟨HR3.out.below HBr.out⟩
              have HZB : Aside0 (Below w.heap.size w wz) := ⟨below_then HB3.out HB3.out.size HBr.out⟩
              have hgz : g < w3.heap.size := HR3.out.lt
              clear HM1 HM2 HK HR3 HB3 HBr e1 hk hkl
              go_wp2
              go_loopw [93] (fun i wr => ∃ k : Nat, i = .int .i64 k ∧ k ≤ l.length ∧ Aside0 (RowN wr g cap ((s.take k).map (label s) ++ s.drop k)) ∧ Aside0 (MapI wr 3 w3.heap.size l.length (firstK s)) ∧ Aside0 (MapI wr 3 (w3.heap.size + 1) l.length (linksK s)) ∧ Aside0 (Below w.heap.size w wr)) (fun i _ => l.length - (intOf i).toNat)
              case atStart => exact ⟨0, rfl, Nat.zero_le _, by simpa using HZR, HZ1, HZ2, HZB⟩
              case round =>
                obtain ⟨k, rfl, hk, HRk, HM1, HM2, HBr⟩ := hrel
                by_cases hkl : k < l.length
                · obtain ⟨x, hx⟩ : ∃ x, s[k]? = some x := ⟨_, List.getElem?_eq_getElem (by have := HLEN.out; omega)⟩
                  have hx' : ((s.take k).map (label s) ++ s.drop k)[k]? = some x := by
                    rw [List.getElem?_append_right (by simp; omega)]
                    simp only [List.length_map, List.length_take]
                    rw [show k - min k s.length = 0 by have := HLEN.out; omega, List.getElem?_drop, Nat.add_zero]; exact hx
                  obtain ⟨n0, n1, n2, n3, n4, n5, n6⟩ := HRk.out.node k x hx'
                  have hxm := List.mem_of_getElem? hx
                  have hxg := HG.out x (HP.out.mem_iff.1 hxm)
                  have hki : keyOf Tryd.prog 3 (.int .i64 x.f1.f0) = some (.int .i64 x.f1.f0) := keyInt _ (WalkArith.wf_i64 (by have := hxg.2.2; omega))
                  have hM1 : MapI (wr.alloc (.cells #[.string x.f0, .int .i64 x.f1.f0, .int .i64 x.f1.f1, .int .i64 x.f1.f2, .int .i64 x.f1.f3, .int .i64 x.f1.f4, .string x.f2] 33)) 3 w3.heap.size l.length (firstK s) := HM1.out.below ((Below.refl _ _).alloc (Nat.le_refl _) _)
                  have hM2 : MapI (wr.alloc (.cells #[.string x.f0, .int .i64 x.f1.f0, .int .i64 x.f1.f1, .int .i64 x.f1.f2, .int .i64 x.f1.f3, .int .i64 x.f1.f4, .string x.f2] 33)) 3 (w3.heap.size + 1) l.length (linksK s) := HM2.out.below ((Below.refl _ _).alloc (Nat.le_refl _) _)
                  have hl0 : (Instr.lookup 38 (.map (some w3.heap.size)) (.int .i64 x.f1.f0) false).run Tryd.prog (wr.alloc (.cells #[.string x.f0, .int .i64 x.f1.f0, .int .i64 x.f1.f1, .int .i64 x.f1.f2, .int .i64 x.f1.f3, .int .i64 x.f1.f4, .string x.f2] 33)) = .ok (.int .i64 (firstIx s (ino x))) (wr.alloc (.cells #[.string x.f0, .int .i64 x.f1.f0, .int .i64 x.f1.f1, .int .i64 x.f1.f2, .int .i64 x.f1.f3, .int .i64 x.f1.f4, .string x.f2] 33)) := hM1.look kInt Tryd.underlying38 hki trivial
                  have hfr := firstIx_range s (ino x)
                  have hfr2 : firstIx s (ino x) ≤ 1000000 := by have := HLEN.out; omega
                  have hfr1 := hfr.1
                  have hki2 : keyOf Tryd.prog 3 (.int .i64 (firstIx s (ino x))) = some (.int .i64 (firstIx s (ino x))) := keyInt _ (WalkArith.wf_i64 (by omega))
                  have hl5 : (Instr.lookup 38 (.map (some (w3.heap.size + 1))) (.int .i64 (firstIx s (ino x))) false).run Tryd.prog (wr.alloc (.cells #[.string x.f0, .int .i64 x.f1.f0, .int .i64 x.f1.f1, .int .i64 x.f1.f2, .int .i64 x.f1.f3, .int .i64 x.f1.f4, .string x.f2] 33)) = .ok (.int .i64 (links s (firstIx s (ino x)))) (wr.alloc (.cells #[.string x.f0, .int .i64 x.f1.f0, .int .i64 x.f1.f1, .int .i64 x.f1.f2, .int .i64 x.f1.f3, .int .i64 x.f1.f4, .string x.f2] 33)) := hM2.look kInt Tryd.underlying38 hki2 trivial
                  have hRW : RowN (wr.alloc (.cells #[.string x.f0, .int .i64 x.f1.f0, .int .i64 x.f1.f1, .int .i64 x.f1.f2, .int .i64 x.f1.f3, .int .i64 x.f1.f4, .string x.f2] 33)) g cap ((s.take k).map (label s) ++ s.drop k) := HRk.out.below ((Below.refl _ _).alloc (Nat.le_refl _) _)
                  obtain ⟨_, q1, q2, q3, q4, q5, _⟩ := hRW.node k x hx'
                  have q2 : (wr.alloc (.cells #[.string x.f0, .int .i64 x.f1.f0, .int .i64 x.f1.f1, .int .i64 x.f1.f2, .int .i64 x.f1.f3, .int .i64 x.f1.f4, .string x.f2] 33)).cell? ⟨g, k * 7 + 1 + 1, none⟩ = some (.int .i64 x.f1.f1) := q2
                  have q3 : (wr.alloc (.cells #[.string x.f0, .int .i64 x.f1.f0, .int .i64 x.f1.f1, .int .i64 x.f1.f2, .int .i64 x.f1.f3, .int .i64 x.f1.f4, .string x.f2] 33)).cell? ⟨g, k * 7 + 1 + 2, none⟩ = some (.int .i64 x.f1.f2) := q3
                  have q4 : (wr.alloc (.cells #[.string x.f0, .int .i64 x.f1.f0, .int .i64 x.f1.f1, .int .i64 x.f1.f2, .int .i64 x.f1.f3, .int .i64 x.f1.f4, .string x.f2] 33)).cell? ⟨g, k * 7 + 1 + 3, none⟩ = some (.int .i64 x.f1.f3) := q4
                  have q5 : (wr.alloc (.cells #[.string x.f0, .int .i64 x.f1.f0, .int .i64 x.f1.f1, .int .i64 x.f1.f2, .int .i64 x.f1.f3, .int .i64 x.f1.f4, .string x.f2] 33)).cell? ⟨g, k * 7 + 1 + 4, none⟩ = some (.int .i64 x.f1.f4) := q5
                  have z1 : (wr.alloc (.cells #[.string x.f0, .int .i64 x.f1.f0, .int .i64 x.f1.f1, .int .i64 x.f1.f2, .int .i64 x.f1.f3, .int .i64 x.f1.f4, .string x.f2] 33)).frozen? ⟨g, k * 7 + 1, none⟩ = false := hRW.frozen _
                  have z2 : (wr.alloc (.cells #[.string x.f0, .int .i64 x.f1.f0, .int .i64 x.f1.f1, .int .i64 x.f1.f2, .int .i64 x.f1.f3, .int .i64 x.f1.f4, .string x.f2] 33)).frozen? ⟨g, k * 7 + 1 + 1, none⟩ = false := hRW.frozen _
                  have z3 : (wr.alloc (.cells #[.string x.f0, .int .i64 x.f1.f0, .int .i64 x.f1.f1, .int .i64 x.f1.f2, .int .i64 x.f1.f3, .int .i64 x.f1.f4, .string x.f2] 33)).frozen? ⟨g, k * 7 + 1 + 2, none⟩ = false := hRW.frozen _
                  have z4 : (wr.alloc (.cells #[.string x.f0, .int .i64 x.f1.f0, .int .i64 x.f1.f1, .int .i64 x.f1.f2, .int .i64 x.f1.f3, .int .i64 x.f1.f4, .string x.f2] 33)).frozen? ⟨g, k * 7 + 1 + 3, none⟩ = false := hRW.frozen _
                  have z5 : (wr.alloc (.cells #[.string x.f0, .int .i64 x.f1.f0, .int .i64 x.f1.f1, .int .i64 x.f1.f2, .int .i64 x.f1.f3, .int .i64 x.f1.f4, .string x.f2] 33)).frozen? ⟨g, k * 7 + 1 + 4, none⟩ = false := hRW.frozen _
                  have HRW := Aside0.mk hRW
                  clear hRW
                  have HX := Aside0.mk hx
                  have HX' := Aside0.mk hx'
                  generalize hff : firstIx s (ino x) = f at hl0 hl5 hfr1 hfr2
                  generalize hlk : links s f = lk at hl5
                  have HFF := Aside0.mk hff
                  have HLK := Aside0.mk hlk
                  clear hx hx' hxm hxg hM1 hM2 hki hki2 hfr hff hlk
                  go_wp2
                  go_roundw
                  case rel =>
                    refine ⟨k + 1, by go_num, by omega, ?_, ?_, ?_, ?_⟩
                    · have h := HRW.out.stat HX'.out f 0 x.f1.f2 lk (x.f2.size : Int)
                      rw [label_step HX.out HFF.out HLK.out] at h
                      exact ⟨h⟩
                    · exact ⟨(HM1.out.below ((Below.refl _ _).alloc (Nat.le_refl _) _)).block (statW_other _ g (k * 7 + 1) f 0 x.f1.f2 lk (x.f2.size : Int) _ (by omega))⟩
                    · exact ⟨(HM2.out.below ((Below.refl _ _).alloc (Nat.le_refl _) _)).block (statW_other _ g (k * 7 + 1) f 0 x.f1.f2 lk (x.f2.size : Int) _ (by omega))⟩
                    · exact ⟨statW_below (HBr.out.alloc HBr.out.size _) g (k * 7 + 1) f 0 x.f1.f2 lk (x.f2.size : Int) HBG.out⟩
                  case measure => simp [intOf]; omega
                · obtain rfl : k = l.length := by omega
                  have hrow := HRk.out
                  rw [← HLEN.out, List.take_length, List.drop_length, List.append_nil] at hrow
                  have hmade := hrow.made HBG.out
                  rw [List.length_map, HLEN.out] at hmade
                  have HMADE := Aside0.mk hmade
                  clear hrow hmade HRk
                  go_wp2
                  go_ret2
                  exact ⟨_, 0, relabel s, rfl, .inr ⟨rfl, HMAY.out, s, HP.out, HSORT.out, HPB.out, HIB.out, rfl⟩, HMADE.out, HBr.out⟩
end Go.Proofs.YtiloadafnalhpaaDoor
