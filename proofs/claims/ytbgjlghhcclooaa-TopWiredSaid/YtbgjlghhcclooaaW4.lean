/- TopWired: its pieces. -/
import Derived.Test.YtbgjlghhcclooaaW3
namespace Go.X
open Go Go.Proofs

theorem arue {n m : Int} {K : SV → Prop} (e : n = m) (h : 0 ≤ m ∧ m < 18446744073709551616) (h1 : K (.v (.int .u64 m))) : Ar .u64 n K := are (by rw [e]; exact wrapu64_in h) h1
theorem tmod6 (k : UInt8) : ((k.toNat : Int)).tmod ((5 + 1 : Nat) : Int) = ((k.toNat % 6 : Nat) : Int) := by
  rw [Int.tmod_eq_emod_of_nonneg (by omega)]; omega

theorem brk (k : UInt8) (j : Nat) {f : Bool → Prop} {S : Prop} (h1 : k.toNat % 6 = j → f true) (h2 : ¬ k.toNat % 6 = j → f false) : Br (((k.toNat : Int)).tmod ((5 + 1 : Nat) : Int) == (j : Int)) f S := by
  rw [tmod6]
  exact brq (fun h => h1 (by omega)) (fun h => h2 (by omega))

/-- What is laid for a piece. -/
def pc (k : UInt8) (n : Int) (xs : List UInt8) : List UInt8 :=
  if k.toNat % 6 = 0 then num (max n 0).toNat else if k.toNat % 6 = 1 then num (zz (n / 4)) else if k.toNat % 6 = 2 ∨ k.toNat % 6 = 3 then num xs.length ++ xs
  else if k.toNat % 6 = 4 then [if n % 2 = 1 then 1 else 0] else xs

def RS (xs : List UInt8) (v : Value) (L : List Assn) : Prop := ∃ o c, v = .slice o xs.length c ∧ L = [sof 1 eB o c xs]

theorem piece_spec (k : UInt8) (n : Int) (hn : -9223372036854775808 ≤ n ∧ n ≤ 9223372036854775807) (oa : Option Addr) (cap : Nat) (xs : List UInt8) (hl : xs.length ≤ 1000000) :
    FnSpec Try.prog 17 [.agg #[.int .u8 k.toNat, .int .i64 n, .slice oa xs.length cap]] [sof 1 eB oa cap xs] (Ret (RS (pc k n xs))) := by
  refine .intro ttOK (fun _ _ => Try.call17 _ _) Try.func17 rfl rfl rfl rfl ?_
  refine xnewq [.int .u8 k.toNat, .int .i64 n, .slice oa xs.length cap] rfl fun b => ?_
  refine xld rfl rfl ?_
  unfold pc
  refine brk k 0 (fun h => ?_) (fun h => ?_)
  · rw [if_pos (by omega)]
    refine xld rfl rfl ?_
    refine xmax ?_
    refine arue (m := ((max n 0).toNat : Nat)) (by omega) (by omega) ?_
    refine xcallr (number_spec (max n 0).toNat (by omega)) ?_
    rintro _ _ ⟨o, c, rfl, rfl⟩
    refine rshare o ?_
    exact xret (M := [sof 1 eB o c (num (max n 0).toNat)]) ⟨o, c, rfl, rfl⟩
  rw [if_neg (by omega)]
  refine brk k 1 (fun h1 => ?_) (fun h1 => ?_)
  · rw [if_pos (by omega)]
    refine xld rfl rfl ?_
    refine brd (fun h0 => ?_) (fun h0 => ?_)
    · have h0 : n / 4 < 0 := h0
      have hz : (zz (n / 4) : Int) = -2 * (n / 4) - 1 := by unfold zz; rw [if_pos h0]; omega
      refine xneg (r := -(n / 4)) rfl rfl (show IntKind.i64.wrap (-(n / 4)) = -(n / 4) from wrap64_in (by omega)) ?_
      refine aru (by omega) ?_
      refine aru (by omega) ?_
      refine arue (m := (zz (n / 4) : Nat)) (by omega) (by omega) ?_
      refine xcallr (number_spec (zz (n / 4)) (by omega)) ?_
      rintro _ _ ⟨o, c, rfl, rfl⟩
      refine rshare o ?_
      exact xret (M := [sof 1 eB o c (num (zz (n / 4)))]) ⟨o, c, rfl, rfl⟩
    · have h0 : ¬ n / 4 < 0 := h0
      have hz : (zz (n / 4) : Int) = 2 * (n / 4) := by unfold zz; rw [if_neg h0]; omega
      refine arue (m := n / 4) rfl (by omega) ?_
      refine arue (m := (zz (n / 4) : Nat)) (by omega) (by omega) ?_
      refine xcallr (number_spec (zz (n / 4)) (by omega)) ?_
      rintro _ _ ⟨o, c, rfl, rfl⟩
      refine rshare o ?_
      exact xret (M := [sof 1 eB o c (num (zz (n / 4)))]) ⟨o, c, rfl, rfl⟩
  rw [if_neg (by omega)]
  have both : (k.toNat % 6 = 2 ∨ k.toNat % 6 = 3) → num xs.length ++ xs = (if k.toNat % 6 = 2 ∨ k.toNat % 6 = 3 then num xs.length ++ xs else if k.toNat % 6 = 4 then [if n % 2 = 1 then 1 else 0] else xs) := fun h => by rw [if_pos h]
  have h10 := num_len10 (n := xs.length) (by omega)
  refine brk k 2 (fun h2 => ?_) (fun h2 => ?_)
  · refine brk k 2 (fun _ => ?_) (fun h => absurd h2 h)
    rw [← both (by omega)]
    refine xdrawl [(0, 2), (5, 2), (1, 1), (2, 2), (3, 2), (6, 1), (4, 0), (7, 0), (8, 0)] [4, 7] (by decide +kernel) ?_
    refine hld rfl rfl ?_
    refine aru (by omega) ?_
    refine hld rfl rfl ?_
    refine xcallr (number_spec xs.length (by omega)) ?_
    rintro _ _ ⟨o, c, rfl, rfl⟩
    refine held ?_
    refine xappq (num xs.length ++ xs) rfl rfl rfl rfl (by simp; omega) fun o1 c1 => ?_
    refine held ?_
    refine rshare o1 ?_
    exact xret (M := [sof 1 eB o1 c1 (num xs.length ++ xs)]) ⟨o1, c1, rfl, rfl⟩
  · refine brk k 3 (fun h3 => ?_) (fun h3 => ?_)
    · rw [← both (by omega)]
      refine xdrawl [(0, 2), (5, 2), (1, 1), (2, 2), (3, 2), (6, 1), (4, 0), (7, 0), (8, 0)] [4, 7] (by decide +kernel) ?_
      refine hld rfl rfl ?_
      refine aru (by omega) ?_
      refine hld rfl rfl ?_
      refine xcallr (number_spec xs.length (by omega)) ?_
      rintro _ _ ⟨o, c, rfl, rfl⟩
      refine held ?_
      refine xappq (num xs.length ++ xs) rfl rfl rfl rfl (by simp; omega) fun o1 c1 => ?_
      refine held ?_
      refine rshare o1 ?_
      exact xret (M := [sof 1 eB o1 c1 (num xs.length ++ xs)]) ⟨o1, c1, rfl, rfl⟩
    rw [if_neg (by omega)]
    refine brk k 4 (fun h4 => ?_) (fun h4 => ?_)
    · rw [if_pos (by omega)]
      refine xld rfl rfl ?_
      have ebit : IntKind.u8.wrap (iand .i64 n 1) = (((if n % 2 = 1 then 1 else 0 : UInt8)).toNat : Int) := by
        rw [iand1]
        split
        · rename_i h; rw [h]; rfl
        · rename_i h; rw [show n % 2 = 0 by omega]; rfl
      refine are ebit ?_
      refine xrow (el := 5) (k := 1) rfl rfl rfl rfl fun b1 => ?_
      refine r_ent (TakePts.out (b := b1) |>.trans (Ent.own (xs := [if n % 2 = 1 then 1 else 0]) (enc := eB) (k := 1) _ rfl (fun y _ => fineB y) (le_maxLen (Nat.le_of_ble_eq_true rfl)))) ?_
      refine rshare (some ⟨b1, 0, none⟩) ?_
      exact xret (M := [sof 1 eB (some ⟨b1, 0, none⟩) 1 [if n % 2 = 1 then 1 else 0]]) ⟨_, _, rfl, rfl⟩
    · rw [if_neg (by omega)]
      refine xld rfl rfl ?_
      exact xret (M := [sof 1 eB oa cap xs]) ⟨_, _, rfl, rfl⟩

end Go.X
