/-
  Words of 32 bits as the walk spells them; the sum, in plain Lean.
  The walks of sum's right and constants.
-/
import Derived.WalkKit
import Derived.Test.YtiloadafnalhpaaDoorProg
import Derived.Deep.QuietTactic
import Derived.BigQuiet
import Derived.Deep.MidRow
import Derived.Deep.WholeRow
import Derived.Lib.Hide
import Derived.LoopTactic
namespace Go.Proofs.YtiloadafnalhpaaDoor
open Go
set_option linter.unusedVariables false
set_option linter.unusedSimpArgs false
abbrev W32 := BitVec 32
def u32 (x : W32) : Value := .int .u32 (x.toNat : Int)
theorem wofInt (x : W32) : BitVec.ofInt 32 (x.toNat : Int) = x := by rw [BitVec.ofInt_natCast, BitVec.ofNat_toNat, BitVec.setWidth_eq]
theorem w_small (x : W32) : IntKind.u32.wrap (x.toNat : Int) = (x.toNat : Int) := by rw [IntKind.wrap_u32]; have := x.isLt; omega
theorem w_add (x y : W32) : IntKind.u32.wrap ((x.toNat : Int) + (y.toNat : Int)) = ((x + y).toNat : Int) := by
  rw [IntKind.wrap_u32, BitVec.toNat_add]; omega
theorem w_bits (op : BinOp) (x y : W32) : Go.bits op .u32 (x.toNat : Int) (y.toNat : Int) = ((match op with
        | Go.BinOp.and => x &&& y
        | Go.BinOp.or => x ||| y
        | Go.BinOp.xor => x ^^^ y
        | _ => x &&& ~~~y).toNat : Int) := by
  have h1 := wofInt x
  have h2 := wofInt y
  show IntKind.u32.wrap _ = _
  simp only [IntKind.bits, h1, h2]
  exact w_small _
theorem w_xor (x y : W32) : Go.bits .xor .u32 (x.toNat : Int) (y.toNat : Int) = ((x ^^^ y).toNat : Int) := w_bits .xor x y
theorem w_and (x y : W32) : Go.bits .and .u32 (x.toNat : Int) (y.toNat : Int) = ((x &&& y).toNat : Int) := w_bits .and x y
theorem w_or (x y : W32) : Go.bits .or .u32 (x.toNat : Int) (y.toNat : Int) = ((x ||| y).toNat : Int) := w_bits .or x y
theorem w_not (x : W32) : Go.bits .xor .u32 4294967295 (x.toNat : Int) = ((~~~x).toNat : Int) := by
  have h := w_xor (BitVec.allOnes 32) x
  rw [BitVec.allOnes_xor] at h
  exact h
theorem w_shr (x : W32) (n : Nat) : (x.toNat : Int) / 2 ^ n = ((x >>> n).toNat : Int) := by
  rw [BitVec.toNat_ushiftRight, Nat.shiftRight_eq_div_pow]; simp
theorem w_shl (x : W32) (n : Nat) : IntKind.u32.wrap ((x.toNat : Int) * 2 ^ n) = ((x <<< n).toNat : Int) := by
  rw [IntKind.wrap_u32, BitVec.toNat_shiftLeft, Nat.shiftLeft_eq]; simp
def rotr (x : W32) (n : Nat) : W32 := x >>> n ||| x <<< (32 - n)
def w8 (c : UInt8) : W32 := BitVec.ofNat 32 c.toNat
theorem w8_toNat (c : UInt8) : (w8 c).toNat = c.toNat := by
  unfold w8; rw [BitVec.toNat_ofNat]; have := c.toNat_lt; omega

/-- The state: eight words. -/
structure S8 where
  (a b c d e f g h : W32)
def S8.words (s : S8) : List W32 := [s.a, s.b, s.c, s.d, s.e, s.f, s.g, s.h]
def tP (s : S8) (k w : W32) : W32 := s.h + (rotr s.e 6 ^^^ rotr s.e 11 ^^^ rotr s.e 25) + ((s.e &&& s.f) ^^^ (~~~s.e &&& s.g)) + k + w
def uP (s : S8) : W32 := (rotr s.a 2 ^^^ rotr s.a 13 ^^^ rotr s.a 22) + ((s.a &&& s.b) ^^^ (s.a &&& s.c) ^^^ (s.b &&& s.c))
def rnd (s : S8) (k w : W32) : S8 := ⟨tP s k w + uP s, s.a, s.b, s.c, s.d + tP s k w, s.e, s.f, s.g⟩
def word4 (a b c d : UInt8) : W32 := (w8 a <<< 24) ||| (w8 b <<< 16) ||| (w8 c <<< 8) ||| w8 d
def sigP (x : W32) : W32 := rotr x 7 ^^^ rotr x 18 ^^^ x >>> 3
def sigQ (x : W32) : W32 := rotr x 17 ^^^ rotr x 19 ^^^ x >>> 10
def nextW (l : List W32) (i : Nat) : W32 := l.getD (i - 16) 0 + sigP (l.getD (i - 15) 0) + l.getD (i - 7) 0 + sigQ (l.getD (i - 2) 0)
/-- The first n words of a block. -/
def wordsP (b : List UInt8) : Nat → List W32
  | 0 => []
  | n + 1 => wordsP b n ++ [if n < 16 then word4 (b.getD (4 * n) 0) (b.getD (4 * n + 1) 0) (b.getD (4 * n + 2) 0) (b.getD (4 * n + 3) 0) else nextW (wordsP b n) n]
theorem wordsP_length (b : List UInt8) : ∀ n, (wordsP b n).length = n
  | 0 => rfl
  | n + 1 => by rw [wordsP, List.length_append, wordsP_length b n]; rfl
def keysP : List W32 := [
  0x428a2f98, 0x71374491, 0xb5c0fbcf, 0xe9b5dba5, 0x3956c25b, 0x59f111f1, 0x923f82a4, 0xab1c5ed5,
  0xd807aa98, 0x12835b01, 0x243185be, 0x550c7dc3, 0x72be5d74, 0x80deb1fe, 0x9bdc06a7, 0xc19bf174,
  0xe49b69c1, 0xefbe4786, 0x0fc19dc6, 0x240ca1cc, 0x2de92c6f, 0x4a7484aa, 0x5cb0a9dc, 0x76f988da,
  0x983e5152, 0xa831c66d, 0xb00327c8, 0xbf597fc7, 0xc6e00bf3, 0xd5a79147, 0x06ca6351, 0x14292967,
  0x27b70a85, 0x2e1b2138, 0x4d2c6dfc, 0x53380d13, 0x650a7354, 0x766a0abb, 0x81c2c92e, 0x92722c85,
  0xa2bfe8a1, 0xa81a664b, 0xc24b8b70, 0xc76c51a3, 0xd192e819, 0xd6990624, 0xf40e3585, 0x106aa070,
  0x19a4c116, 0x1e376c08, 0x2748774c, 0x34b0bcb5, 0x391c0cb3, 0x4ed8aa4a, 0x5b9cca4f, 0x682e6ff3,
  0x748f82ee, 0x78a5636f, 0x84c87814, 0x8cc70208, 0x90befffa, 0xa4506ceb, 0xbef9a3f7, 0xc67178f2]
/-- The state behind n rounds. -/
def rounds8 (h : S8) (ws : List W32) : Nat → S8
  | 0 => h
  | n + 1 => rnd (rounds8 h ws n) (keysP.getD n 0) (ws.getD n 0)
def add8 (h s : S8) : S8 := ⟨h.a + s.a, h.b + s.b, h.c + s.c, h.d + s.d, h.e + s.e, h.f + s.f, h.g + s.g, h.h + s.h⟩
/-- The state behind one block. -/
def turnedP (h : S8) (b : List UInt8) : S8 := add8 h (rounds8 h (wordsP b 64) 64)
def init8 : S8 := ⟨0x6a09e667, 0xbb67ae85, 0x3c6ef372, 0xa54ff53a, 0x510e527f, 0x9b05688c, 0x1f83d9ab, 0x5be0cd19⟩
def feed1 (m : S8 × List UInt8) (c : UInt8) : S8 × List UInt8 := if m.2.length = 63 then (turnedP m.1 (m.2 ++ [c]), []) else (m.1, m.2 ++ [c])
/-- A mix that takes bytes: the state, and what is held. -/
def feedP (m : S8 × List UInt8) (s : List UInt8) : S8 × List UInt8 := s.foldl feed1 m
theorem feedP_append (m : S8 × List UInt8) (s t : List UInt8) : feedP m (s ++ t) = feedP (feedP m s) t := List.foldl_append
theorem feed1_held (m : S8 × List UInt8) (c : UInt8) (h : m.2.length < 64) : (feed1 m c).2.length = (m.2.length + 1) % 64 := by
  unfold feed1
  split
  · rename_i e; rw [e]; rfl
  · simp; omega
theorem feedP_held : ∀ (s : List UInt8) (m : S8 × List UInt8), m.2.length < 64 → (feedP m s).2.length = (m.2.length + s.length) % 64
  | [], m, h => by simp [feedP]; omega
  | c :: s, m, h => by
    have e := feed1_held m c h
    have := feedP_held s (feed1 m c) (by omega)
    show (feedP (feed1 m c) s).2.length = _
    rw [this, e, List.length_cons]; omega
theorem feed_part : ∀ (s : List UInt8) (m : S8 × List UInt8), m.2.length + s.length < 64 → feedP m s = (m.1, m.2 ++ s)
  | [], m, h => by simp [feedP]
  | c :: s, m, h => by
    simp only [List.length_cons] at h
    show feedP (feed1 m c) s = _
    have e : feed1 m c = (m.1, m.2 ++ [c]) := by unfold feed1; rw [if_neg (by omega)]
    rw [e, feed_part s _ (by simp; omega)]
    simp
theorem feed_full : ∀ (s : List UInt8) (m : S8 × List UInt8), s ≠ [] → m.2.length + s.length = 64 → feedP m s = (turnedP m.1 (m.2 ++ s), [])
  | [], m, h, _ => absurd rfl h
  | [c], m, _, h => by
    simp only [List.length_cons, List.length_nil] at h
    show feed1 m c = _
    unfold feed1; rw [if_pos (by omega)]
  | c :: d :: s, m, _, h => by
    simp only [List.length_cons] at h
    show feedP (feed1 m c) (d :: s) = _
    have e : feed1 m c = (m.1, m.2 ++ [c]) := by unfold feed1; rw [if_neg (by omega)]
    rw [e, feed_full (d :: s) _ (by simp) (by simp; omega)]
    simp
/-- How many bytes 0 stand behind the byte 128. -/
def zerosP (n : Nat) : Nat := (119 - n % 64) % 64
def be (n k : Nat) : UInt8 := UInt8.ofNat (n / 2 ^ k)
def len8 (n : Nat) : List UInt8 := [be n 56, be n 48, be n 40, be n 32, be n 24, be n 16, be n 8, be n 0]
def filledP (s : List UInt8) : List UInt8 := s ++ [128] ++ List.replicate (zerosP s.length) 0 ++ len8 (8 * s.length)
def outW (x : W32) : List UInt8 := [be x.toNat 24, be x.toNat 16, be x.toNat 8, be x.toNat 0]
def outP (s : S8) : List UInt8 := s.words.flatMap outW
/-- The sum of a text. -/
def sumP (s : List UInt8) : List UInt8 := outP (feedP (init8, []) (filledP s)).1
theorem outP_length (s : S8) : (outP s).length = 32 := rfl
theorem sumP_length (s : List UInt8) : (sumP s).length = 32 := rfl
end Go.Proofs.YtiloadafnalhpaaDoor
namespace Go.Proofs.YtiloadafnalhpaaDoor
open Go.RowKit
set_option linter.unusedVariables false
set_option linter.unusedSimpArgs false

theorem quiet_add {P : Program} {f : FuncId} {args : Array Value} {w : World} {a n : Nat} {v : Value}
    (h : Calls P f args (w.drewN (a + n)) fun e w' => e = .returned v ∧ ∃ m, w' = (w.drewN (a + n)).drewN m) :
    Calls P f args (w.drewN (a + n)) fun e w'' => e = .returned v ∧ ∃ m, w'' = w.drewN (a + m) :=
  h.mono fun _ _ ⟨he, m, hm⟩ => ⟨he, n + m, by rw [hm, World.drewN_drewN, Nat.add_assoc]⟩
theorem rot_val (x : W32) (n : Nat) : Go.bits .or .u32 ((x.toNat : Int) / 2 ^ n) ((x.toNat : Int) * 2 ^ (32 - n) % 4294967296) = ((rotr x n).toNat : Int) := by
  have h := w_shl x (32 - n)
  rw [IntKind.wrap_u32] at h
  rw [w_shr, h, w_or]; rfl
theorem ret_u32 {a b : Int} (h : a = b) : Ending.returned (.int .u32 a) = .returned (.int .u32 b) := by rw [h]
set_option maxHeartbeats 4000000 in
theorem right_calls (x : W32) (n : Nat) (h1 : 1 ≤ n) (h2 : n ≤ 31) (w : World) :
    Calls Tryd.prog 82 #[.int .u32 (x.toNat : Int), .int .i64 n] w fun e w' => e = .returned (.int .u32 ((rotr x n).toNat : Int)) ∧ ∃ n, w' = w.drewN n := by
  have hs : IntKind.i64.wrap ((32 : Int) - (n : Int)) = 32 - (n : Int) := IntWalk.i64_in _ (by omega)
  have h0 : (0 : Int) ≤ 32 - (n : Int) := by omega
  have hR := Lib.hid (rot_val x n)
  go_enter Tryd.func82, Tryd.ntmps82
  go_wp2
  go_quiet (fail)
  go_wp2
  go_ret
  exact ⟨ret_u32 hR.out, _, rfl⟩
def rotZ (x : W32) (z : Int) : W32 := rotr x z.toNat
theorem right_any (x : W32) (z : Int) (h1 : 1 ≤ z) (h2 : z ≤ 31) (w : World) :
    Calls Tryd.prog 82 #[.int .u32 (x.toNat : Int), .int .i64 z] w fun e w' => e = .returned (.int .u32 ((rotZ x z).toNat : Int)) ∧ ∃ n, w' = w.drewN n := by
  obtain ⟨n, rfl⟩ : ∃ n : Nat, z = n := ⟨z.toNat, by omega⟩
  exact right_calls x n (by omega) (by omega) w

/-- The words as a row of cells. -/
def rowW (l : List W32) : Array Value := (l.map u32).toArray
theorem rowW_size (l : List W32) : (rowW l).size = l.length := by simp [rowW]
theorem rowW_one (l : List W32) : (rowW l).all (·.oneCell') = true := Array.all_eq_true_iff_forall_mem.2 (fun v hv => by
  simp only [rowW, List.mem_toArray, List.mem_map] at hv
  obtain ⟨x, _, rfl⟩ := hv; rfl)
theorem wpList_build_eq {P : Program} {ops : Array Oper} {rest : List Oper} {o : Oper} {a : Act} {w : World} {Q : Exit → Act → World → Prop} (hg : o.guard = none) (t : TypeId) (parts : Array (Nat × Operand)) (ho : o.op = .build t parts)
    (cells : Array Value) (hf : P.built t (parts.map fun (i, x) => (i, a.eval x)).toList = some cells)
    (h : wpList P ops Q rest (a.put o.dst (.agg cells)) w) : wpList P ops Q (o :: rest) a w :=
  wpList_build hg t parts ho (by rw [hf]; rfl) (by rw [hf]; exact h)
theorem setRow_new (w : World) (c c' : Array Value) (t : TypeId) : (w.alloc (.cells c t)).setRow w.heap.size c' = w.alloc (.cells c' t) := World.setRow_alloc_new w c c' t
theorem zero_k : (Tryd.prog.info? 127).map (fun i => (i.zero, i.size)) = some (some (.agg (rowW (List.replicate 64 0))), 64) := by kernel_rfl
theorem size_k : (Tryd.prog.info? 127).map (·.size) = some 64 := by kernel_rfl
set_option maxHeartbeats 4000000 in
set_option maxRecDepth 100000 in
theorem constants_calls (w : World) :
    Calls Tryd.prog 83 #[] w fun e w' => e = .returned (.agg (rowW keysP)) ∧ Below w.heap.size w w' := by
  go_enter Tryd.func83, Tryd.ntmps83
  go_wp2_with (first
    | (refine wpList_build_eq rfl 127 _ rfl (rowW keysP) (by kernel_rfl) ?_)
    | (refine wpList_store_row rfl 127 _ _ rfl w.heap.size (rowW keysP) rfl rfl 127 _ (heap_alloc_new _ _) (by rw [rowW_size]; exact size_k) (by rw [rowW_size]; rfl) (rowW_one _) ?_; rw [setRow_new]))
  exact bodyPost_ret (results_cell_row Tryd.results83 _ _ w.heap.size 127 (rowW keysP) (0, 0) _ rfl (heap_alloc_new _ _) Tryd.underlying127 rfl (by rw [rowW_size]; exact size_k)) rfl ⟨rfl, (Below.refl _ _).alloc (Nat.le_refl _) _⟩
end Go.Proofs.YtiloadafnalhpaaDoor
