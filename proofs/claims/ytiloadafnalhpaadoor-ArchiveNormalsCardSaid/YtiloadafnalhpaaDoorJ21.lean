/-
  The walks of archive's writer: put, text.
  The walks of archive's writer: text, node (a directory).
  The walk of slices.Equal and archive.same, at two rows of the same nodes.
  The walk of archive.Bytes at the root alone.
-/
import Derived.Test.YtiloadafnalhpaaDoorJ20
import Derived.Test.YtiloadafnalhpaaDoorJ9
import Derived.Test.YtiloadafnalhpaaDoorJ19
namespace Go.Proofs.YtiloadafnalhpaaDoor
open Go.RowKit Go.Proofs.YtiloadafnalhpaaDoorW.PrintWords Go.Proofs.YtiloadafnalhpaaDoorW.PrintLast Go.Proofs.YtiloadafnalhpaaDoorW.PrintMore
open Go.Proofs.YtiloadafnalhpaaDoor.PA
set_option linter.unusedVariables false
set_option linter.unusedSimpArgs false

theorem Wri.lt {w : World} {b : Nat} {l : List UInt8} (h : Wri w b l) : b < w.heap.size := by
  obtain ⟨p, v, hb, _⟩ := h; exact (Array.getElem?_eq_some_iff.1 hb).1
theorem Wri.below {w w' : World} {b : Nat} {l : List UInt8} (h : Wri w b l) (hb : Below w.heap.size w w') : Wri w' b l := by
  have hl := h.lt
  obtain ⟨p, v, hbk, hp, ho⟩ := h
  refine ⟨p, v, (hb.block b hl).trans hbk, hp, ho.1, ?_⟩
  rcases ho.2 with h2 | ⟨g, cap, cur, e1, e2, e3, r⟩
  · exact .inl h2
  · exact .inr ⟨g, cap, cur, e1, e2, (hb.block g (Array.getElem?_eq_some_iff.1 e3).1).trans e3, r⟩
theorem Fr.of_below {w w' : World} {b : Nat} {l : List UInt8} (h : Wri w b l) (hb : Below w.heap.size w w') : Fr b w w' := by
  have hl := h.lt
  obtain ⟨p, v, hbk, hp, ho⟩ := h
  exact ⟨_, v, _, v, hbk, (hb.block b hl).trans hbk, .inl rfl, hb.size, fun k hk _ _ => hb.block k hk⟩
theorem leB_length (n wd : Nat) : (leB n wd).length = wd := by simp [leB]

set_option maxHeartbeats 16000000 in
set_option maxRecDepth 100000 in
theorem aput_calls (b n wd : Nat) (l : List UInt8) (w : World) (h : Wri w b l) (hl : l.length ≤ 90000000) (hw1 : 1 ≤ wd) (hw6 : wd ≤ 6) (hn : n < 256 ^ wd) (hn6 : n < 281474976710656) :
    Calls Tryd.prog 27 #[.pointer (some ⟨b, 0, none⟩), .int .i64 n, .int .i64 wd] w fun e w' => e = .returned (.tuple #[]) ∧ Wri w' b (l ++ leB n wd) ∧ Below b w w' ∧ Fr b w w' := by
  have HPC := Aside0.mk (fun W => put_calls n wd W hw1 hw6 hn hn6)
  have hlt := h.lt
  have HW := Aside0.mk h
  clear hn h
  have hsz : (leS n wd).size = wd := by show (leB n wd).toArray.size = wd; simp [leB_length]
  have hsz2 : (leS n wd).size ≤ 100000000 := by omega
  clear hsz
  go_enter Tryd.func27, Tryd.ntmps27
  go_wp2_with (first
    | (go_at_call 49; refine (HPC.out _).mono ?_; rintro e w1 ⟨rfl, hb1⟩; have HW1 := Aside0.mk (HW.out.below hb1); have HF1 := Aside0.mk (Fr.of_below HW.out hb1); have HB1 := Aside0.mk hb1; clear hb1)
    | (go_at_call 26; refine (ws_calls b (leS n wd) l _ HW1.out hsz2 (by omega)).mono ?_; rintro e w2 ⟨⟨ev, rfl⟩, hw2, hb2, hf2⟩; have HF2 := Aside0.mk hf2; have HW2 := Aside0.mk hw2; have HB2 := Aside0.mk hb2; clear hw2 hb2 hf2))
  go_end0
  exact ⟨rfl, by have := HW2.out; simpa [leS] using this, ((HB1.out).mono (by omega)).trans HB2.out, HF1.out.trans HF2.out⟩
end Go.Proofs.YtiloadafnalhpaaDoor
namespace Go.Proofs.YtiloadafnalhpaaDoor
open Go.RowKit Go.Proofs.YtiloadafnalhpaaDoorW.PrintWords Go.Proofs.YtiloadafnalhpaaDoorW.PrintLast Go.Proofs.YtiloadafnalhpaaDoorW.PrintMore
open Go.Proofs.YtiloadafnalhpaaDoor.PA
set_option linter.unusedVariables false
set_option linter.unusedSimpArgs false

set_option maxHeartbeats 16000000 in
set_option maxRecDepth 100000 in
theorem atext_calls (b : Nat) (s : ByteArray) (l : List UInt8) (w : World) (h : Wri w b l) (hl : l.length ≤ 80000000) (hs : s.size ≤ 255) :
    Calls Tryd.prog 50 #[.pointer (some ⟨b, 0, none⟩), .string s] w fun e w' => e = .returned (.tuple #[]) ∧ Wri w' b (l ++ leB s.size 1 ++ s.data.toList) ∧ Below b w w' ∧ Fr b w w' := by
  have hlt := h.lt
  have HPC := Aside0.mk (fun W (h : Wri W b l) => aput_calls b s.size 1 l W h (by omega) (by omega) (by omega) (by omega) (by omega))
  have HWS := Aside0.mk (fun W (h : Wri W b (l ++ leB s.size 1)) => ws_calls b s _ W h (by omega) (by rw [List.length_append, leB_length]; omega))
  have HW := Aside0.mk h
  clear h
  go_enter Tryd.func50, Tryd.ntmps50
  go_wp2_with (first
    | (go_at_call 27; refine (HPC.out _ HW.out).mono ?_; rintro e w1 ⟨rfl, hw1, hb1, hf1⟩; have HW1 := Aside0.mk hw1; have HB1 := Aside0.mk hb1; have HF1 := Aside0.mk hf1; clear hw1 hb1 hf1)
    | (go_at_call 26; refine (HWS.out _ HW1.out).mono ?_; rintro e w2 ⟨⟨ev, rfl⟩, hw2, hb2, hf2⟩; have HW2 := Aside0.mk hw2; have HB2 := Aside0.mk hb2; have HF2 := Aside0.mk hf2; clear hw2 hb2 hf2))
  go_end0
  exact ⟨rfl, HW2.out, HB1.out.trans HB2.out, HF1.out.trans HF2.out⟩

/-- A block that was laid behind the writer is kept. -/
theorem Fr.keep {b : Nat} {l : List UInt8} {w w' : World} {o : Obj} (h : Wri w b l) (hf : Fr b (w.alloc o) w') : w'.heap[w.heap.size]? = some o := by
  obtain ⟨q, u, hbk, _, ho⟩ := h
  have hl := (Array.getElem?_eq_some_iff.1 hbk).1
  obtain ⟨p, v, p', v', a1, a2, a3, a4, a5⟩ := hf
  have hb1 : (w.alloc o).heap[b]? = w.heap[b]? := ((Below.refl w.heap.size w).alloc (Nat.le_refl _) o).block b hl
  rw [hb1, hbk] at a1
  injection a1 with a1
  injection a1 with a1 _ _
  have e : u = v := by injection a1 with a1; injection a1 with _ a1; injection a1 with a1 _
  subst e
  refine (a5 w.heap.size (by simp) (by omega) fun h => ?_).trans (heap_alloc_new w o)
  rcases ho.2 with ⟨rfl, _⟩ | ⟨g, cap, cur, rfl, e2, e3, r⟩
  · cases h
  · have := (Array.getElem?_eq_some_iff.1 e3).1
    injection h with h
    simp only at h
    omega
set_option maxHeartbeats 16000000 in
set_option maxRecDepth 100000 in
theorem anode_calls (b : Nat) (x : Nd) (at_ : Int) (l : List UInt8) (w : World) (h : Wri w b l) (hl : l.length ≤ 70000000) (hs : x.f0.size ≤ 255) (hk : x.f1.f2 = 2) :
    Calls Tryd.prog 28 #[.pointer (some ⟨b, 0, none⟩), .agg #[.string x.f0, .int .i64 x.f1.f0, .int .i64 x.f1.f1, .int .i64 x.f1.f2, .int .i64 x.f1.f3, .int .i64 x.f1.f4, .string x.f2], .int .i64 at_] w fun e w' => e = .returned (.tuple #[]) ∧ Wri w' b (l ++ leB 2 1 ++ leB x.f0.size 1 ++ x.f0.data.toList) ∧ Below b w w' ∧ Fr b w w' := by
  have hlt := h.lt
  have HPC := Aside0.mk (fun W (h : Wri W b l) => aput_calls b 2 1 l W h (by omega) (by omega) (by omega) (by omega) (by omega))
  have HTX := Aside0.mk (fun W (h : Wri W b (l ++ leB 2 1)) => atext_calls b x.f0 _ W h (by rw [List.length_append, leB_length]; omega) hs)
  have HW := Aside0.mk h
  have HW0 : Aside0 (∀ o, Wri (w.alloc o) b l) := ⟨fun o => h.below ((Below.refl _ _).alloc (Nat.le_refl _) _)⟩
  rw [hk]
  clear h hk
  have hw0 := HW.out.lt
  go_enter Tryd.func28, Tryd.ntmps28
  go_wp2_with (first
    | (go_at_call 27; refine (HPC.out _ (HW0.out _)).mono ?_; rintro e w1 ⟨rfl, hw1, hb1, hf1⟩; have hkp := Fr.keep HW.out hf1; have k0 : w1.cell? ⟨w.heap.size, 0, none⟩ = some (.string x.f0) := (blk_cell hkp 0).trans rfl; have k3 : w1.cell? ⟨w.heap.size, 3, none⟩ = some (.int .i64 2) := (blk_cell hkp 3).trans rfl; have HW1 := Aside0.mk hw1; have HB1 := Aside0.mk hb1; have HF1 := Aside0.mk hf1; clear hw1 hb1 hf1 hkp)
    | (go_at_call 50; refine (HTX.out _ HW1.out).mono ?_; rintro e w2 ⟨rfl, hw2, hb2, hf2⟩; have hkp := Fr.keep HW.out (HF1.out.trans hf2); have k3 : w2.cell? ⟨w.heap.size, 3, none⟩ = some (.int .i64 2) := (blk_cell hkp 3).trans rfl; have HW2 := Aside0.mk hw2; have HB2 := Aside0.mk hb2; have HF2 := Aside0.mk hf2; clear hw2 hb2 hf2 hkp))
  go_end0
  exact ⟨rfl, by have := HW2.out; simpa [List.append_assoc] using this, ((Below.refl b w).alloc (by omega) _).trans (HB1.out.trans HB2.out), (Fr.of_below HW.out ((Below.refl _ _).alloc (Nat.le_refl _) _)).trans (HF1.out.trans HF2.out)⟩
end Go.Proofs.YtiloadafnalhpaaDoor
namespace Go.Proofs.YtiloadafnalhpaaDoor
open Go.RowKit Go.Proofs.YtiloadafnalhpaaDoorW.PrintWords Go.Proofs.YtiloadafnalhpaaDoorW.PrintLast Go.Proofs.YtiloadafnalhpaaDoorW.PrintMore
open Go.Proofs.YtiloadafnalhpaaDoor.PA
set_option linter.unusedVariables false
set_option linter.unusedSimpArgs false

set_option maxHeartbeats 16000000 in
set_option maxRecDepth 100000 in
theorem eq_calls (A B : Option Addr) (c d : Nat) (l : List Nd) (w : World) (ha : Kd.C k33 w A l.length l) (hb : Kd.C k33 w B l.length l) (hl : l.length ≤ 1000000) :
    Calls Tryd.prog 47 #[.slice A l.length c, .slice B l.length d] w fun e w' => e = .returned (.bool true) ∧ ∃ n, w' = w.drewN n := by
  have HA := Aside0.mk ha
  have HB := Aside0.mk hb
  clear ha hb
  go_enter Tryd.func47, Tryd.ntmps47
  go_wp2
  go_loopw [13] (fun v5 wr => ∃ i : Nat, v5 = .int .i64 i ∧ i ≤ l.length ∧ Aside0 (∃ n, wr = w.drewN n)) (fun v5 _ => l.length - (intOf v5).toNat)
  case atStart => exact ⟨0, rfl, Nat.zero_le _, ⟨0, rfl⟩⟩
  case round =>
    obtain ⟨i, rfl, hi, HW⟩ := hrel
    obtain ⟨n, hw⟩ := HW.out
    subst hw
    by_cases h1 : i < l.length
    · obtain ⟨x, hx⟩ : ∃ x, l[i]? = some x := ⟨_, List.getElem?_eq_getElem h1⟩
      obtain ⟨ad, hA⟩ : ∃ ad, A = some ad := by obtain ⟨ad, e, _⟩ := HA.out.2.2 (by omega); exact ⟨ad, e⟩
      obtain ⟨bd, hB⟩ : ∃ ad, B = some ad := by obtain ⟨ad, e, _⟩ := HB.out.2.2 (by omega); exact ⟨ad, e⟩
      subst hA
      subst hB
      obtain ⟨n0, n1, n2, n3, n4, n5, n6⟩ := node_add HA.out hx
      obtain ⟨p0, p1, p2, p3, p4, p5, p6⟩ := node_add HB.out hx
      clear hx HW
      go_wp2
      go_quiet (fail)
      go_wp2
      go_roundw
      case rel => exact ⟨i + 1, by go_num, by omega, ⟨_, rfl⟩⟩
      case measure => simp [intOf]; omega
    · go_wp2
      go_ret
      exact ⟨rfl, _, rfl⟩

set_option maxHeartbeats 16000000 in
set_option maxRecDepth 100000 in
theorem asame_calls (A B : Option Addr) (c d : Nat) (l : List Nd) (w : World) (ha : Kd.C k33 w A l.length l) (hb : Kd.C k33 w B l.length l) (hl : l.length ≤ 1000000) :
    Calls Tryd.prog 25 #[.slice A l.length c, .slice B l.length d] w fun e w' => e = .returned (.bool true) ∧ ∃ n, w' = w.drewN n := by
  have HE := Aside0.mk (eq_calls A B c d l w ha hb hl)
  clear ha hb
  go_enter Tryd.func25, Tryd.ntmps25
  go_wp2_with (go_at_call 47; refine HE.out.mono ?_; rintro e w1 ⟨rfl, n, rfl⟩)
  go_ret
  exact ⟨rfl, _, rfl⟩
end Go.Proofs.YtiloadafnalhpaaDoor
namespace Go.Proofs.YtiloadafnalhpaaDoor
open Go.RowKit Go.Proofs.YtiloadafnalhpaaDoorW.PrintWords Go.Proofs.YtiloadafnalhpaaDoorW.PrintLast Go.Proofs.YtiloadafnalhpaaDoorW.PrintMore
open Go.Proofs.YtiloadafnalhpaaDoor.PA
set_option linter.unusedVariables false
set_option linter.unusedSimpArgs false

def headL : List UInt8 := [65, 82, 67, 72, 1, 0, 0, 0]
def rootL (i : Nat) : List UInt8 := if i = 0 then headL else headL ++ [2, 1, 47]
theorem wri_new (w : World) : Wri (w.alloc (.cells #[.pointer none, .slice none 0 0] 59)) w.heap.size [] :=
  ⟨none, .slice none 0 0, blk_new _ _, .inl rfl, own_nil _ _ _ _⟩
theorem good_rootN : ∀ n ∈ [rootN], GoodN n := good_root rfl rfl (by decide)
set_option maxHeartbeats 1000000 in
set_option maxRecDepth 100000 in
theorem bytes_root (A : Option Addr) (c : Nat) (w : World) (hr : Kd.C k33 w A 1 [rootN]) (hc : 1 ≤ c) (hM : MaxCell w) (hw0 : 0 < w.heap.size) :
    Calls Tryd.prog 18 #[.slice A 1 c] w fun e w' => e = .returned (.tuple #[.string (rootS ++ sumS rootS), .int .i64 0]) ∧ Below w.heap.size w w' := by
  have HC := Aside0.mk hr
  have HNC := Aside0.mk (normal_calls A c [rootN] w hr hc (by decide) good_rootN hM hw0)
  have HSU := Aside0.mk (fun W => sum_calls rootS W (by decide))
  clear hr hM
  go_enter Tryd.func18, Tryd.ntmps18
  go_wp2_with (first
    | (go_at_call 5; refine HNC.out.mono ?_; rintro e w1 ⟨v, er, r, rfl, hn, hr1, hb1⟩; obtain ⟨rfl, rfl⟩ := norm_root rfl rfl rfl hn; obtain ⟨A1, c1, rfl, _, hc1⟩ := Kd.R_reads hr1; have HC1 := Aside0.mk hc1; have HC0 := Aside0.mk (Kd.C_below HC.out hb1); have HB1 := Aside0.mk hb1; clear hn hr1 hc1 hb1)
    | (go_at_call 25; refine (asame_calls A1 A c1 c [rootN] w1 HC1.out HC0.out (by decide)).mono ?_; rintro e w2 ⟨rfl, k, rfl⟩; have HB2 := Aside0.mk (pw_below_drewN HB1.out k); have HC2 := Aside0.mk (Kd.C_drewN HC0.out k); have HW2 := Aside0.mk (wri_new (w1.drewN k)))
    | (go_at_call 26; refine (ws_calls _ ⟨#[65, 82, 67, 72]⟩ [] _ HW2.out (by decide) (by decide)).mono ?_; rintro e w3 ⟨⟨ev, rfl⟩, hw3, hb3, hf3⟩; have HW3 := Aside0.mk hw3; have HB3 := Aside0.mk (((HB2.out.alloc HB2.out.size _).trans (hb3.mono HB2.out.size))); clear hw3 hb3 hf3)
    | (go_at_call 27; refine (aput_calls _ 1 4 _ _ HW3.out (by decide) (by decide) (by decide) (by decide) (by decide)).mono ?_; rintro e w4 ⟨rfl, hw4, hb4, hf4⟩; have HW4 := Aside0.mk hw4; have HB4 := Aside0.mk ((HB3.out.trans (hb4.mono HB2.out.size))); clear hw4 hb4 hf4))
  have HWL : Aside0 (Wri w4 w1.heap.size (rootL 0)) := ⟨HW4.out⟩
  have HCA : Aside0 (∀ W, Below w.heap.size w W → Kd.C k33 W A 1 [rootN]) := ⟨fun W hb => Kd.C_below HC.out hb⟩
  have hbw := HB1.out.size
  clear HW4 HW3 HW2 HC0 HC1 HC2 HB3 HNC HC
  go_loopw [36, 7, 9, 8] (fun v36 v7 v9 v8 wr => ∃ i : Nat, v36 = .int .i64 i ∧ v7 = .int .i64 0 ∧ i ≤ 1 ∧ Aside0 (Wri wr w1.heap.size (rootL i)) ∧ Aside0 (Below w.heap.size w wr)) (fun v36 _ _ _ _ => 1 - (intOf v36).toNat)
  case atStart => exact ⟨0, rfl, rfl, Nat.zero_le _, HWL, HB4⟩
  case round =>
    clear HWL HB4
    obtain ⟨i, rfl, rfl, hi, HW, HB⟩ := hrel
    by_cases h1 : i < 1
    · have hx0 : i = 0 := by omega
      have hx1 : [rootN][i]? = some rootN := by rw [hx0]; rfl
      have hrl : rootL i = rootL 0 := by rw [hx0]
      have hW := HW.out
      rw [hrl] at hW
      have HWW := Aside0.mk hW
      obtain ⟨ad, hA⟩ : ∃ ad, A = some ad := by obtain ⟨ad, e, _⟩ := (HCA.out _ HB.out).2.2 (by decide); exact ⟨ad, e⟩
      subst hA
      obtain ⟨p0, p1, p2, p3, p4, p5, p6⟩ := node_add (HCA.out _ HB.out) hx1
      simp only [rootN] at p0 p1 p2 p3 p4 p5 p6
      have HX0 := Lib.hid hx0
      clear hx0 hx1 hrl hW HW
      go_wp2_with (first
        | (go_at_call 28; refine (anode_calls _ rootN _ _ _ (HWW.out.below ((Below.refl _ _).alloc (Nat.le_refl _) _)) (by decide) (by decide) rfl).mono ?_; rintro e w5 ⟨rfl, hw5, hb5, hf5⟩; have hkp := Fr.keep HWW.out hf5; have q6 : w5.cell? ⟨wr.heap.size, 6, none⟩ = some (.string ⟨#[]⟩) := (blk_cell hkp 6).trans rfl; have HW5 := Aside0.mk hw5; have HB5 := Aside0.mk ((HB.out.alloc HB.out.size _).trans (hb5.mono hbw)); clear hw5 hb5 hf5 hkp)
        | (go_at_call 29; refine (len_calls _ _ _ HW5.out).mono ?_; rintro e w6 ⟨rfl, rfl⟩))
      go_roundw
      case rel =>
        refine ⟨i + 1, by go_num, rfl, by omega, ⟨?_⟩, HB5⟩
        rw [HX0.out]
        exact HW5.out
      case measure => simp [intOf]; omega
    · obtain rfl : i = 1 := by omega
      have hW : Wri wr w1.heap.size rootS.data.toList := HW.out
      have HWW := Aside0.mk hW
      have hss : (sumS rootS).size ≤ 32 := Nat.le_of_eq (sumS_size _)
      have hsr : rootS.size ≤ 11 := by decide
      clear hW
      rw [show ((1 : Nat) : Int) = 1 from rfl]
      go_wp2_with (first
        | (go_at_call 30; refine (str_calls _ rootS.data.toList _ HWW.out (by decide)).mono ?_; rintro e w5 ⟨rfl, hb5⟩; have HB5 := Aside0.mk (HB.out.trans (hb5.mono hbw)); clear hb5)
        | (go_at_call 31; refine (HSU.out _).mono ?_; rintro e w6 ⟨rfl, hb6⟩; have HB6 := Aside0.mk (HB5.out.trans (hb6.mono HB5.out.size)); clear hb6))
      go_ret2
      exact ⟨rfl, HB6.out⟩
end Go.Proofs.YtiloadafnalhpaaDoor
