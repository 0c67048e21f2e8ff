/- Shifts, words, signs. A library; no statement of the seat is proved here. -/
import Derived.Test.YtbgjlghhcclooaaXDraw
namespace Go.X
open Go

/-- A shift to the left by a number that is not written out. -/
theorem xshl {P : Program} {t : TypeId} {cx cy : Bool} {k k' : IntKind} {m s r : Int} {L : List Assn} {K : Ending → List Assn → Prop} (n : Nat) (hs : s = n) (h : k.wrap (m * ((2 ^ min n k.bits : Nat) : Int)) = r)
    (q : K (.returned (.int k r)) L) : VC P (.bin .shl t cx cy (.int k m) (.int k' s)) L K := by
  refine ⟨fun w R o => ?_⟩
  subst hs
  have : (Eff.next (.bin .shl t cx cy (.int k m) (.int k' n))).run P w = .ok (.value (.int k r)) w := by
    have h0 : ¬ ((n : Int) < 0) := by omega
    have hg : (eqGuard .shl t (opd cx (.int k m)) (opd cy (.int k' n)) (.int k m) (.int k' n)).run P w = .ok () w := rfl
    have e : (binOp .shl t (.int k m) (.int k' n)).run P w = .ok (.int k r) w := by
      rw [← h]
      simp [binOp, Op.shift, h0]
    simp [Eff.next, hg, e]
  rw [this]
  exact ⟨L, o, q⟩
theorem xshr {P : Program} {t : TypeId} {cx cy : Bool} {k k' : IntKind} {m s r : Int} {L : List Assn} {K : Ending → List Assn → Prop} (n : Nat) (hs : s = n) (h : m / ((2 ^ min n k.bits : Nat) : Int) = r)
    (q : K (.returned (.int k r)) L) : VC P (.bin .shr t cx cy (.int k m) (.int k' s)) L K := by
  refine ⟨fun w R o => ?_⟩
  subst hs
  have : (Eff.next (.bin .shr t cx cy (.int k m) (.int k' n))).run P w = .ok (.value (.int k r)) w := by
    have h0 : ¬ ((n : Int) < 0) := by omega
    have hg : (eqGuard .shr t (opd cx (.int k m)) (opd cy (.int k' n)) (.int k m) (.int k' n)).run P w = .ok () w := rfl
    have e : (binOp .shr t (.int k m) (.int k' n)).run P w = .ok (.int k r) w := by
      rw [← h]
      have := fdiv_pow m (min n k.bits)
      simp [binOp, Op.shift, h0, this]
    simp [Eff.next, hg, e]
  rw [this]
  exact ⟨L, o, q⟩
/-- A remainder by a number that is not written out. -/
theorem xrem {P : Program} {t : TypeId} {cx cy : Bool} {k : IntKind} {m n : Int} {L : List Assn} {K : Ending → List Assn → Prop} (hn : n ≠ 0)
    (q : K (.returned (.int k (m.tmod n))) L) : VC P (.bin .rem t cx cy (.int k m) (.int k n)) L K := by
  refine ⟨fun w R o => ?_⟩
  have : (Eff.next (.bin .rem t cx cy (.int k m) (.int k n))).run P w = .ok (.value (.int k (m.tmod n))) w := by
    have hg : (eqGuard .rem t (opd cx (.int k m)) (opd cy (.int k n)) (.int k m) (.int k n)).run P w = .ok () w := rfl
    have e : (binOp .rem t (.int k m) (.int k n)).run P w = .ok (.int k (m.tmod n)) w := by simp [binOp, Op.intDiv, hn]
    simp [Eff.next, hg, e]
  rw [this]
  exact ⟨L, o, q⟩
theorem xquo {P : Program} {t : TypeId} {cx cy : Bool} {k : IntKind} {m n r : Int} {L : List Assn} {K : Ending → List Assn → Prop} (hn : n ≠ 0) (h : k.wrap (m.tdiv n) = r)
    (q : K (.returned (.int k r)) L) : VC P (.bin .quo t cx cy (.int k m) (.int k n)) L K := by
  refine ⟨fun w R o => ?_⟩
  have : (Eff.next (.bin .quo t cx cy (.int k m) (.int k n))).run P w = .ok (.value (.int k r)) w := by
    have hg : (eqGuard .quo t (opd cx (.int k m)) (opd cy (.int k n)) (.int k m) (.int k n)).run P w = .ok () w := rfl
    have e : (binOp .quo t (.int k m) (.int k n)).run P w = .ok (.int k r) w := by rw [← h]; simp [binOp, Op.intDiv, hn]
    simp [Eff.next, hg, e]
  rw [this]
  exact ⟨L, o, q⟩
/-- -x -/
theorem xneg {P : Program} {o : Oper} {ρ : Operand → Value} {t : TypeId} {x : Operand} {k : IntKind} {n r : Int} {L : List Assn} {K : Ending → List Assn → Prop} (ho : o.op = .unOp .neg t x) (hx : ρ x = .int k n) (h : k.wrap (-n) = r)
    (q : K (.returned (.int k r)) L) : VC P (.gen o ρ) L K := by
  refine ⟨fun w R ow => ?_⟩
  have : (Eff.next (.gen o ρ)).run P w = .ok (.value (.int k r)) w := by
    rw [← h]
    have e : (0 : Int) - n = -n := by omega
    simp [Eff.next, execOp, ho, hx, Op.unary, Op.intArith, e]
  rw [this]
  exact ⟨L, ow, q⟩

theorem iand1 (n : Int) : iand .i64 n 1 = n % 2 := by
  have e : (BitVec.ofInt IntKind.i64.bits n &&& BitVec.ofInt IntKind.i64.bits 1).toNat = (n % 2).toNat := by
    show (BitVec.ofInt 64 n &&& BitVec.ofInt 64 1).toNat = _
    rw [BitVec.toNat_and, BitVec.toNat_ofInt]
    have : (BitVec.ofInt 64 1).toNat = 1 := by decide
    rw [this, Nat.and_one_is_mod]
    omega
  unfold iand
  rw [e]
  exact (wrap64_in (by omega)).trans (by omega)
theorem iand127 (c : UInt8) : iand .u8 (c.toNat : Int) 127 = ((c.toNat % 128 : Nat) : Int) := by
  have key : ∀ x : Fin 256, iand .u8 ((x : Nat) : Int) 127 = (((x : Nat) % 128 : Nat) : Int) := by decide +kernel
  exact key ⟨c.toNat, c.toNat_lt⟩
theorem ior_low {n c i : Nat} (hn : n < 2 ^ i) (hb : n + c * 2 ^ i < 9223372036854775808) : ior .i64 (n : Int) ((c * 2 ^ i : Nat) : Int) = ((n + c * 2 ^ i : Nat) : Int) := by
  have e : (BitVec.ofInt IntKind.i64.bits (n : Int) ||| BitVec.ofInt IntKind.i64.bits ((c * 2 ^ i : Nat) : Int)).toNat = n + c * 2 ^ i := by
    show (BitVec.ofInt 64 (n : Int) ||| BitVec.ofInt 64 ((c * 2 ^ i : Nat) : Int)).toNat = _
    have h := Nat.two_pow_add_eq_or_of_lt hn c
    rw [Nat.mul_comm] at h
    have f : ∀ m : Nat, m < 9223372036854775808 → (BitVec.ofInt 64 (m : Int)).toNat = m := fun m hm => by rw [BitVec.toNat_ofInt]; omega
    rw [BitVec.toNat_or, f n (by omega), f _ (by omega), Nat.or_comm, ← h, Nat.add_comm]
  unfold ior
  rw [e]
  exact wrap64_in (by omega)
/-- x ^ -1 is the complement. -/
theorem ixor64_zero {a : Int} (h : -9223372036854775808 ≤ a ∧ a ≤ 9223372036854775807) : ixor .i64 a 0 = a := by
  unfold ixor
  have e : (BitVec.ofInt IntKind.i64.bits a ^^^ BitVec.ofInt IntKind.i64.bits 0).toNat = (a % 18446744073709551616).toNat := by
    show (BitVec.ofInt 64 a ^^^ BitVec.ofInt 64 0).toNat = _
    have : BitVec.ofInt 64 a ^^^ BitVec.ofInt 64 0 = BitVec.ofInt 64 a := by simp
    rw [this, BitVec.toNat_ofInt]
    rfl
  rw [e, IntKind.wrap_i64]
  omega
theorem ixor64_ones {a : Int} (h : -9223372036854775808 ≤ a ∧ a ≤ 9223372036854775807) : ixor .i64 a (-1) = -a - 1 := by
  unfold ixor
  have e : (BitVec.ofInt IntKind.i64.bits a ^^^ BitVec.ofInt IntKind.i64.bits (-1)).toNat = 18446744073709551615 - (a % 18446744073709551616).toNat := by
    show (BitVec.ofInt 64 a ^^^ BitVec.ofInt 64 (-1)).toNat = _
    have : BitVec.ofInt 64 (-1) = BitVec.allOnes 64 := by decide
    rw [this, BitVec.xor_allOnes, BitVec.toNat_not, BitVec.toNat_ofInt]
    omega
  rw [e, IntKind.wrap_i64]
  omega
end Go.X
