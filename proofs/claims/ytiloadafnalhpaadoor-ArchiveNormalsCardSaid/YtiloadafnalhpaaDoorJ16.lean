/-
  The walk of sum.Mix.Feed.
-/
import Derived.Test.YtiloadafnalhpaaDoorJ15
import Derived.Test.YtiloadafnalhpaaDoorWLast
namespace Go.Proofs.YtiloadafnalhpaaDoor
open Go.RowKit Go.Proofs.YtiloadafnalhpaaDoorW.PrintWords Go.Proofs.YtiloadafnalhpaaDoorW.PrintLast
set_option linter.unusedVariables false
set_option linter.unusedSimpArgs false

theorem str_ext (s : ByteArray) (k : Nat) (hk : k ≤ s.size) : (s.extract k s.size).size = s.size - k ∧ (s.extract k s.size).data.toList = s.data.toList.drop k := by
  refine ⟨by simp, ?_⟩
  rw [ByteArray.data_extract, Array.toList_extract, List.extract_eq_take_drop, List.take_of_length_le]
  rw [List.length_drop]
  show s.data.toList.length - k ≤ s.data.size - k
  simp
theorem laidP_take {part hb c : List UInt8} {held : Nat} (hp : part.length = 64) (hh : hb.length = held) (ht : part.take held = hb) (h : held + c.length ≤ 64) : (laidP part held c).take (held + c.length) = hb ++ c := by
  subst hh
  unfold laidP
  rw [ht, List.take_append, List.take_of_length_le (by omega), Nat.add_sub_cancel_left, List.take_append_of_le_length (Nat.le_refl _), List.take_length]
theorem laidP_full {part hb c : List UInt8} {held : Nat} (hp : part.length = 64) (hh : hb.length = held) (ht : part.take held = hb) (h : held + c.length = 64) : laidP part held c = hb ++ c := by
  have e := laidP_take hp hh ht (Nat.le_of_eq h)
  rw [h, List.take_of_length_le (by rw [laidP_length hp (by omega)]; omega)] at e
  exact e
set_option maxHeartbeats 1000000 in
set_option maxRecDepth 100000 in
theorem feed_calls (g : Nat) (s : ByteArray) (m : S8 × List UInt8) (all : Nat) (w : World) (hM : MixW w g m all) (hs : s.size ≤ 1000000000) (ha : all ≤ 1000000000) :
    Calls Tryd.prog 53 #[.pointer (some ⟨g, 0, none⟩), .string s] w fun e w' => e = .returned (.tuple #[]) ∧ MixW w' g (feedP m s.data.toList) (all + s.size) ∧ Below g w w' := by
  obtain ⟨hm, part, hR, hp⟩ := hM
  have HP := Lib.hid hp
  have HR := Aside0.mk hR
  obtain ⟨c72, c73, c74⟩ := hR.cells
  have f73 := hR.frozen 73
  clear hR hp
  go_enter Tryd.func53, Tryd.ntmps53
  go_wp2
  have H1 : Aside0 (MixW (w.setCell ⟨g, 73, none⟩ (.int .u64 ((all : Int) + (s.size : Int)))) g m (all + s.size)) := ⟨⟨hm, part, HR.out.all (all + s.size) (by omega), HP.out⟩⟩
  clear c72 c73 c74 f73
  go_loopw [1, 4] (fun v1 v4 wr => ∃ (k : Nat) (t : ByteArray), v1 = .string t ∧ t.size + k = s.size ∧ Aside0 (t.data.toList = s.data.toList.drop k) ∧ Aside0 (MixW wr g (feedP m (s.data.toList.take k)) (all + s.size)) ∧ Aside0 (Below g w wr)) (fun v1 _ _ => match v1 with | .string t => t.size | _ => 0)
  case atStart => exact ⟨0, s, rfl, rfl, ⟨by simp⟩, by simpa [feedP] using H1, ⟨(Below.refl _ _).setCell (p := ⟨g, 73, none⟩) (Nat.le_refl _) _⟩⟩
  case round =>
    clear H1 hm HR HP
    obtain ⟨k, t, rfl, hkt, HD, HM, HB⟩ := hrel
    by_cases h1 : 0 < t.size
    · revert HM
      generalize hmk : feedP m (s.data.toList.take k) = mk
      intro HM
      have HMK := Lib.hid hmk
      clear hmk
      obtain ⟨st, hb⟩ := mk
      obtain ⟨hm1, part1, hR, hp⟩ := HM.out
      dsimp only at hm1 hR hp
      obtain ⟨held, hheld⟩ : ∃ h, hb.length = h := ⟨_, rfl⟩
      rw [hheld] at hR hm1 hp
      have HP := Lib.hid hp
      have HR := Aside0.mk hR
      have c72 := hR.cells.1
      have HH := Lib.hid hheld
      have f72 := hR.frozen 72
      clear hR hp hheld HM
      have HPL := Lib.hid HR.out.2
      have hl : (held : Int) ≤ 64 := by omega
      have hne : ¬ 64 = held := by omega
      obtain ⟨n, hn⟩ : ∃ n, Nat.min t.size (64 - held) = n := ⟨_, rfl⟩
      have hn1 : n ≤ t.size := by rw [← hn]; exact Nat.min_le_left _ _
      have hn2 : n ≤ 64 - held := by rw [← hn]; exact Nat.min_le_right _ _
      have hn3 : n = t.size ∨ n = 64 - held := by
        rcases Nat.le_total t.size (64 - held) with h | h
        · exact .inl (by rw [← hn]; exact Nat.min_eq_left h)
        · exact .inr (by rw [← hn]; exact Nat.min_eq_right h)
      have hn0 : 0 < n := by omega
      have HN := Lib.hid hn
      have HN3 := Lib.hid hn3
      clear hn hn3
      have hcl : (t.data.toList.take n).length = n := by rw [List.length_take, Array.length_toList]; exact Nat.min_eq_left hn1
      have HCL := Lib.hid hcl
      clear hcl
      have HSZ : Aside0 (8 + held + n ≤ (mixC st part1 held (all + s.size)).length) := ⟨by rw [mixC_length HR.out.2]; omega⟩
      go_wp2
      go_still_tail 9, (by kernel_rfl)
      change wpList _ _ _ _ _ wr.drew
      refine wpList_copy_string_list rfl (.tmp 34) (.tmp 35) 55 9 rfl 5 g (8 + held) (64 - held) (64 - held) t _ 115 n rfl rfl HN.out Tryd.underlying55 size_1 HR.out.1 HSZ.out ?_
      have hR2 := HR.out.drew.copied (t.data.toList.take n) (by rw [HCL.out]; omega) (n := n) (o1 := 8 + held) (o2 := 8 + held + n) HCL.out.symm rfl rfl
      have hB2 := below_row (Below.drew HB.out) (Nat.le_refl g) ((mixC st part1 held (all + s.size)).take (8 + held) ++ byteV (t.data.toList.take n) ++ (mixC st part1 held (all + s.size)).drop (8 + held + n)).toArray
      revert hR2 hB2
      generalize wr.drew.setRow g _ = w2
      intro hR2 hB2
      clear c72 f72 HR HB HSZ
      have c72 := hR2.cells.1
      have f72 := hR2.frozen 72
      have HR := Aside0.mk hR2
      have HB := Aside0.mk hB2
      clear hR2 hB2
      have hKT : Aside0 ((t.extract n t.size).data.toList = s.data.toList.drop (k + n)) := ⟨by rw [(str_ext t n hn1).2, HD.out, List.drop_drop]⟩
      have hFT : Aside0 (s.data.toList.take (k + n) = s.data.toList.take k ++ t.data.toList.take n) := ⟨by rw [HD.out, List.take_add]⟩
      have hts : Aside0 ((t.extract n t.size).size + (k + n) = s.size) := ⟨by rw [(str_ext t n hn1).1]; omega⟩
      by_cases hf : held + n = 64
      · have hb1 : ((held : Int) + (n : Int) == 64) = true := by simp; omega
        have HF := Lib.hid hf
        clear hf
        have hpf := laidP_full (part := part1) (hb := hb) (c := t.data.toList.take n) (held := held) HPL.out HH.out HP.out (by rw [HCL.out]; exact HF.out)
        have hR3 := HR.out.held 64 (z := (held : Int) + (n : Int)) (by have := HF.out; omega)
        rw [hpf] at hR3
        have hl64 := hR3.2
        have HR3 := Aside0.mk hR3
        have HT := Aside0.mk (fun W => turned_calls st (hb ++ t.data.toList.take n) hl64 W)
        have HL64 := Lib.hid hl64
        have HB3 := Aside0.mk (HB.out.setCell (p := ⟨g, 72, none⟩) (Nat.le_refl _) (.int .i64 ((held : Int) + (n : Int))))
        clear hpf hR3 hl64
        go_wp2_with fail
        refine start_ (S := fun W => MixR W g st (hb ++ t.data.toList.take n) 64 (all + s.size)) (ds := [12]) (n := 13) #[false, false, false, false, false, false, false, false, false, false, false, false, false] (by kernel_rfl) rfl rfl HR3.out.drew ?_
        intro hS
        refine pure_ (i := 0) (N := some 53) (v := Value.pointer (some ⟨g, 0, none⟩)) #[true, false, false, false, false, false, false, false, false, false, false, false, false] rfl rfl (by kernel_rfl) (fun _ _ _ h => h) (.inl ⟨by rfl, fun W => by go_simp⟩) (by simp only [Act.put, List.setIfInBounds_toArray, List.set_cons_succ, List.set_cons_zero]; rfl) ?_
        refine pure_ (i := 1) (N := some 54) (v := Value.pointer (some ⟨g, 0, none⟩)) #[true, true, false, false, false, false, false, false, false, false, false, false, false] rfl rfl (by kernel_rfl) (fun _ _ _ h => h) (.inl ⟨by rfl, fun W => by go_simp⟩) (by simp only [Act.put, List.setIfInBounds_toArray, List.set_cons_succ, List.set_cons_zero]; rfl) ?_
        refine pure_ (i := 2) (N := some 55) (v := Value.pointer (some ⟨g, 0, none⟩)) #[true, true, true, false, false, false, false, false, false, false, false, false, false] rfl rfl (by kernel_rfl) (fun _ _ _ h => h) (.inl ⟨by rfl, fun W => by go_simp⟩) (by simp only [Act.put, List.setIfInBounds_toArray, List.set_cons_succ, List.set_cons_zero]; rfl) ?_
        refine pure_ (i := 3) (N := some 56) (v := Value.pointer (some ⟨g, 0, none⟩)) #[true, true, true, true, false, false, false, false, false, false, false, false, false] rfl rfl (by kernel_rfl) (fun _ _ _ h => h) (.inl ⟨by rfl, fun W => by go_simp⟩) (by simp only [Act.put, List.setIfInBounds_toArray, List.set_cons_succ, List.set_cons_zero]; rfl) ?_
        refine take_ (i := 4) (N := some 57) (v := .agg (H8 st)) #[true, true, true, true, true, false, false, false, false, false, false, false, false] rfl rfl (by kernel_rfl) (fun _ _ _ h => h) (yState (fun W hW => hW) (by rfl) (.tmp 56) rfl rfl) hS (by simp only [Act.put, List.setIfInBounds_toArray, List.set_cons_succ, List.set_cons_zero]; rfl) ?_
        refine pure_ (i := 5) (N := some 58) (v := Value.pointer (some ⟨g, 0, none⟩)) #[true, true, true, true, true, true, false, false, false, false, false, false, false] rfl rfl (by kernel_rfl) (fun _ _ _ h => h) (.inl ⟨by rfl, fun W => by go_simp⟩) (by simp only [Act.put, List.setIfInBounds_toArray, List.set_cons_succ, List.set_cons_zero]; rfl) ?_
        refine pure_ (i := 6) (N := some 59) (v := Value.pointer (some ⟨g, 0, none⟩)) #[true, true, true, true, true, true, true, false, false, false, false, false, false] rfl rfl (by kernel_rfl) (fun _ _ _ h => h) (.inl ⟨by rfl, fun W => by go_simp⟩) (by simp only [Act.put, List.setIfInBounds_toArray, List.set_cons_succ, List.set_cons_zero]; rfl) ?_
        refine pure_ (i := 7) (N := some 60) (v := Value.pointer (some ⟨g, 8, none⟩)) #[true, true, true, true, true, true, true, true, false, false, false, false, false] rfl rfl (by kernel_rfl) (fun _ _ _ h => h) (.inl ⟨by rfl, fun W => by go_simp⟩) (by simp only [Act.put, List.setIfInBounds_toArray, List.set_cons_succ, List.set_cons_zero]; rfl) ?_
        refine take_ (i := 8) (N := some 61) (v := .agg (rowB (hb ++ t.data.toList.take n))) #[true, true, true, true, true, true, true, true, true, false, false, false, false] rfl rfl (by kernel_rfl) (fun _ _ _ h => h) (yPart HL64.out (fun W hW => hW) (by rfl) (.tmp 60) rfl rfl) hS (by simp only [Act.put, List.setIfInBounds_toArray, List.set_cons_succ, List.set_cons_zero]; rfl) ?_
        refine one_ (i := 9) (N := some 62) #[true, true, true, true, true, true, true, true, true, true, false, false, false] rfl rfl (by kernel_rfl) (by decide) (fun K hK => ?_)
        refine goes_ Tryd.func73 (by kernel_rfl) rfl #[.agg (H8 st), .agg (rowB (hb ++ t.data.toList.take n))] (by rfl) rfl rfl (by simp only [List.map_toArray, List.map_cons, List.map_nil]; rfl) ?_
        refine (HT.out _).mono ?_
        rintro e w3 ⟨rfl, hb3⟩
        have hR4 := MixR.below hS hb3
        have HB4 := Aside0.mk ((Below.drew HB3.out).trans (hb3.mono (Nat.le_of_lt (blk_lt hS.1))))
        refine ⟨_, rfl, hK.out _ _ hR4 (fun _ => ?_)⟩
        clear hK K hb3
        refine norm_ (by simp only [Act.put, List.setIfInBounds_toArray, List.set_cons_succ, List.set_cons_zero]; rfl) ?_
        refine pure_ (i := 10) (N := some 63) (v := Value.pointer (some ⟨g, 0, none⟩)) #[true, true, true, true, true, true, true, true, true, true, true, false, false] rfl rfl (by kernel_rfl) (fun _ _ _ h => h) (.inl ⟨by rfl, fun W => by go_simp⟩) (by simp only [Act.put, List.setIfInBounds_toArray, List.set_cons_succ, List.set_cons_zero]; rfl) ?_
        refine pure_ (i := 11) (N := some 64) (v := Value.pointer (some ⟨g, 0, none⟩)) #[true, true, true, true, true, true, true, true, true, true, true, true, false] rfl rfl (by kernel_rfl) (fun _ _ _ h => h) (.inl ⟨by rfl, fun W => by go_simp⟩) (by simp only [Act.put, List.setIfInBounds_toArray, List.set_cons_succ, List.set_cons_zero]; rfl) ?_
        refine last_ (i := 12) (N := none) #[true, true, true, true, true, true, true, true, true, true, true, true, true] rfl rfl (by kernel_rfl) (by decide) (fun K hK => ?_)
        refine skip_ (by rfl) rfl (exec_store_list 112 _ _ rfl g 0 (H8 (turnedP st (hb ++ t.data.toList.take n))) _ 115 rfl rfl hR4.1 (by rw [mixC_length hR4.2]; show 0 + 8 ≤ 75; decide) size_8 (H8_one _)) (hK.out _ _ ?_)
        clear hK K
        refine done_ (by kernel_rfl) ?_
        have hR5 := hR4.state (turnedP st (hb ++ t.data.toList.take n)) (o1 := 0) (o2 := 0 + (H8 (turnedP st (hb ++ t.data.toList.take n))).size) rfl rfl
        have hB5 := below_row HB4.out (Nat.le_refl g) ((mixC st (hb ++ t.data.toList.take n) 64 (all + s.size)).take 0 ++ (H8 (turnedP st (hb ++ t.data.toList.take n))).toList ++ (mixC st (hb ++ t.data.toList.take n) 64 (all + s.size)).drop (0 + (H8 (turnedP st (hb ++ t.data.toList.take n))).size)).toArray
        revert hR5 hB5
        generalize w3.setRow g _ = w4
        intro hR5 hB5
        have f725 := hR5.frozen 72
        have c725 := hR5.cells.1
        have HR5 := Aside0.mk hR5
        have HB5 := Aside0.mk hB5
        clear hR5 hR4 hS hB5
        go_wp2
        go_roundw
        case rel =>
          refine ⟨k + n, t.extract n t.size, rfl, hts.out, hKT, ⟨?_⟩, ⟨HB5.out.setCell (p := ⟨g, 72, none⟩) (Nat.le_refl _) _⟩⟩
          rw [hFT.out, feedP_append, HMK.out, feed_full _ _ (by intro e; rw [e] at HCL; have := HCL.out; simp at this; omega) (by rw [HCL.out]; show hb.length + n = 64; rw [HH.out]; exact HF.out)]
          exact ⟨Nat.zero_lt_succ _, _, HR5.out.held 0 rfl, rfl⟩
        case measure => simp [intOf]; omega
      · have hb1 : ((held : Int) + (n : Int) == 64) = false := by simp; omega
        go_wp2
        go_roundw
        case rel =>
          refine ⟨k + n, t.extract n t.size, rfl, hts.out, hKT, ⟨?_⟩, ⟨HB.out.setCell (p := ⟨g, 72, none⟩) (Nat.le_refl _) _⟩⟩
          rw [hFT.out, feedP_append, HMK.out, feed_part _ _ (by rw [HCL.out]; show hb.length + n < 64; rw [HH.out]; omega)]
          refine ⟨by simp [HCL.out, HH.out]; omega, _, HR.out.held _ (by simp [HCL.out, HH.out]), ?_⟩
          have e := laidP_take (part := part1) (hb := hb) (c := t.data.toList.take n) (held := held) HPL.out HH.out HP.out (by rw [HCL.out]; omega)
          dsimp only
          rw [List.length_append, HH.out]
          exact e
        case measure => simp [intOf]; omega
    · have ht0 : ¬ (0 : Int) < (t.size : Int) := by omega
      have hk : k = s.size := by omega
      have HK := Lib.hid hk
      clear hk
      go_wp2
      go_end0
      refine ⟨rfl, ?_, HB.out⟩
      have h := HM.out
      rw [HK.out, List.take_of_length_le (by simp)] at h
      exact h
end Go.Proofs.YtiloadafnalhpaaDoor
