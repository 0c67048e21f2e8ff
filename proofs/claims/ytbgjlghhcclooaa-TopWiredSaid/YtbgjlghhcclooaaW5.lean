/- TopWired: a piece is taken. Printed by gen_w5.py. -/
import Derived.Test.YtbgjlghhcclooaaW4
namespace Go.X
open Go Go.Proofs

def rdMap {α : Type} (f : α → Bool) : Except Int (α × List UInt8) → Except Int (Bool × List UInt8)
  | .error e => .error e
  | .ok (x, r) => .ok (f x, r)
/-- A piece is read: is it that? -/
def rdP (k : UInt8) (n : Int) (xs ys : List UInt8) : Except Int (Bool × List UInt8) :=
  if k.toNat % 6 = 0 then rdMap (fun m : Nat => (m : Int) == max n 0) (rdNum (max n 0) ys) else
  if k.toNat % 6 = 1 then rdMap (fun m : Int => m == n / 4) (rdSigned ys) else
  if k.toNat % 6 = 2 then rdMap (fun zs : List UInt8 => decide (zs = xs)) (rdLong xs.length ys) else
  if k.toNat % 6 = 3 then rdMap (fun zs : List UInt8 => decide (zs = xs)) (rdLong (xs.length + 5 : Nat) ys) else
  if k.toNat % 6 = 4 then rdMap (fun t : Bool => t == (n % 2 == 1)) (rdTruth ys) else
  rdMap (fun zs : List UInt8 => decide (zs = xs)) (rdRaw xs.length ys)

theorem res_map {α : Type} {f : α → Bool} {fl : Int} {re : Except Int (α × List UInt8)} : res fl (rdMap f re) = rdMap f (res fl re) := by
  unfold res; split <;> rfl

/-- How a piece is taken. -/
def POut (re : Except Int (Bool × List UInt8)) (b : Nat) (oa : Option Addr) (cap : Nat) (ys : List UInt8) (at_ due : Int) (v : Value) (L : List Assn) : Prop :=
  (∃ t r o c, re = .ok (t, r) ∧ r.length ≤ ys.length ∧ v = .bool (decide (due = 0) && t) ∧ L = rdr b o c r (at_ + ys.length - r.length) 0) ∨
  (∃ e, re = .error e ∧ e ≠ 0 ∧ v = .bool (decide (e = due)) ∧ L = rdr b oa cap ys at_ e)

theorem str_eq (zs xs : List UInt8) : ((strOf zs).toList == (strOf xs).toList) = decide (zs = xs) := by
  rw [strOf, strOf, ByteArray.toList_mk, ByteArray.toList_mk, Bool.eq_iff_iff]; simp

theorem taken_spec (k : UInt8) (n : Int) (hn : -9223372036854775808 ≤ n ∧ n ≤ 9223372036854775807) (ox : Option Addr) (cx : Nat) (xs : List UInt8) (hx : xs.length ≤ 1000)
    (b : Nat) (oa : Option Addr) (cap : Nat) (ys : List UInt8) (at_ fl due : Int) (hl : ys.length ≤ 100000) (ha : 0 ≤ at_ ∧ at_ ≤ 1000000 - ys.length) :
    FnSpec Try.prog 21 [.agg #[.int .u8 k.toNat, .int .i64 n, .slice ox xs.length cx], .pointer (some ⟨b, 0, none⟩), .int .i64 due] (sof 1 eB ox cx xs :: rdr b oa cap ys at_ fl)
      (Ret (POut (res fl (rdP k n xs ys)) b oa cap ys at_ due)) := by
  refine .intro ttOK (fun _ _ => Try.call21 _ _) Try.func21 rfl rfl rfl rfl ?_
  refine xnewq [.int .u8 k.toNat, .int .i64 n, .slice ox xs.length cx] rfl fun bp => ?_
  refine xld rfl rfl ?_
  unfold rdP
  refine brk k 0 (fun h => ?_) (fun h => ?_)
  · rw [if_pos h, res_map]
    refine xld rfl rfl ?_
    refine xmax ?_
    refine xcallr (rNumber b oa cap ys at_ fl (max n 0) (by omega) (by omega) (by omega)) ?_
    rintro _ _ (⟨x, r, o, c, o1, c1, hr, hc, rfl, rfl⟩ | ⟨e, hr, he, rfl, rfl⟩)
    · refine brq (fun hd => ?_) (fun hd => ?_)
      · refine brun hd.symm ?_
        refine xld rfl rfl ?_
        refine xmax ?_
        exact xret (M := rdr b o c r (at_ + ys.length - r.length) 0) (Or.inl ⟨_, r, o, c, by rw [hr]; rfl, hc, by rw [decide_eq_true hd.symm]; rfl, rfl⟩)
      · exact xret (M := rdr b o c r (at_ + ys.length - r.length) 0) (Or.inl ⟨_, r, o, c, by rw [hr]; rfl, hc, by rw [decide_eq_false (fun h => hd h.symm)]; rfl, rfl⟩)
    · refine brq (fun hd => ?_) (fun hd => ?_)
      · refine bruy (hd ▸ he) ?_
        exact xret (M := rdr b oa cap ys at_ e) (Or.inr ⟨e, by rw [hr]; rfl, he, by rw [decide_eq_true hd]; rfl, rfl⟩)
      · exact xret (M := rdr b oa cap ys at_ e) (Or.inr ⟨e, by rw [hr]; rfl, he, by rw [decide_eq_false hd]; rfl, rfl⟩)
  rw [if_neg h]
  refine brk k 1 (fun h1 => ?_) (fun h1 => ?_)
  · rw [if_pos h1, res_map]
    refine xcallr (rSigned b oa cap ys at_ fl (by omega) (by omega)) ?_
    rintro _ _ (⟨x, r, o, c, o1, c1, hr, hc, rfl, rfl⟩ | ⟨e, hr, he, rfl, rfl⟩)
    · refine brq (fun hd => ?_) (fun hd => ?_)
      · refine brun hd.symm ?_
        refine xld rfl rfl ?_
        exact xret (M := rdr b o c r (at_ + ys.length - r.length) 0) (Or.inl ⟨_, r, o, c, by rw [hr]; rfl, hc, by rw [decide_eq_true hd.symm]; rfl, rfl⟩)
      · exact xret (M := rdr b o c r (at_ + ys.length - r.length) 0) (Or.inl ⟨_, r, o, c, by rw [hr]; rfl, hc, by rw [decide_eq_false (fun h => hd h.symm)]; rfl, rfl⟩)
    · refine brq (fun hd => ?_) (fun hd => ?_)
      · refine bruy (hd ▸ he) ?_
        exact xret (M := rdr b oa cap ys at_ e) (Or.inr ⟨e, by rw [hr]; rfl, he, by rw [decide_eq_true hd]; rfl, rfl⟩)
      · exact xret (M := rdr b oa cap ys at_ e) (Or.inr ⟨e, by rw [hr]; rfl, he, by rw [decide_eq_false hd]; rfl, rfl⟩)
  rw [if_neg h1]
  refine brk k 2 (fun h2 => ?_) (fun h2 => ?_)
  · rw [if_pos h2, res_map]
    refine xld rfl rfl ?_
    refine xcallr (rBytes b oa cap ys at_ fl xs.length (by omega) (by omega) (by omega)) ?_
    rintro _ _ (⟨x, r, o, c, o1, c1, hr, hc, rfl, rfl⟩ | ⟨e, hr, he, rfl, rfl⟩)
    · refine brq (fun hd => ?_) (fun hd => ?_)
      · refine brun hd.symm ?_
        refine xld rfl rfl ?_
        refine xshare o1 ?_
        refine xcallr (equal_spec o1 ox c1 cx x xs) ?_
        rintro _ _ ⟨rfl, rfl⟩
        exact xret (M := rdr b o c r (at_ + ys.length - r.length) 0) (Or.inl ⟨_, r, o, c, by rw [hr]; rfl, hc, by rw [decide_eq_true hd.symm]; rfl, rfl⟩)
      · exact xret (M := rdr b o c r (at_ + ys.length - r.length) 0) (Or.inl ⟨_, r, o, c, by rw [hr]; rfl, hc, by rw [decide_eq_false (fun h => hd h.symm)]; rfl, rfl⟩)
    · refine brq (fun hd => ?_) (fun hd => ?_)
      · refine bruy (hd ▸ he) ?_
        exact xret (M := rdr b oa cap ys at_ e) (Or.inr ⟨e, by rw [hr]; rfl, he, by rw [decide_eq_true hd]; rfl, rfl⟩)
      · exact xret (M := rdr b oa cap ys at_ e) (Or.inr ⟨e, by rw [hr]; rfl, he, by rw [decide_eq_false hd]; rfl, rfl⟩)
  rw [if_neg h2]
  refine brk k 3 (fun h3 => ?_) (fun h3 => ?_)
  · rw [if_pos h3, res_map]
    refine xld rfl rfl ?_
    refine arj (m := (xs.length + 5 : Nat)) (by omega) (by omega) ?_
    refine xcallr (rText b oa cap ys at_ fl (xs.length + 5 : Nat) (by omega) (by omega) (by omega)) ?_
    rintro _ _ (⟨x, r, o, c, o1, c1, hr, hc, rfl, rfl⟩ | ⟨e, hr, he, rfl, rfl⟩)
    · refine brq (fun hd => ?_) (fun hd => ?_)
      · refine brun hd.symm ?_
        refine xld rfl rfl ?_
        refine xcnv_bs (xs := xs) rfl rfl rfl rfl rfl rfl rfl rfl ?_
        exact xret (M := rdr b o c r (at_ + ys.length - r.length) 0) (Or.inl ⟨_, r, o, c, by rw [hr]; rfl, hc, by rw [decide_eq_true hd.symm]; show Value.bool _ = Value.bool (true && decide (x = xs)); rw [← str_eq]; rfl, rfl⟩)
      · exact xret (M := rdr b o c r (at_ + ys.length - r.length) 0) (Or.inl ⟨_, r, o, c, by rw [hr]; rfl, hc, by rw [decide_eq_false (fun h => hd h.symm)]; rfl, rfl⟩)
    · refine brq (fun hd => ?_) (fun hd => ?_)
      · refine bruy (hd ▸ he) ?_
        exact xret (M := rdr b oa cap ys at_ e) (Or.inr ⟨e, by rw [hr]; rfl, he, by rw [decide_eq_true hd]; rfl, rfl⟩)
      · exact xret (M := rdr b oa cap ys at_ e) (Or.inr ⟨e, by rw [hr]; rfl, he, by rw [decide_eq_false hd]; rfl, rfl⟩)
  rw [if_neg h3]
  refine brk k 4 (fun h4 => ?_) (fun h4 => ?_)
  · rw [if_pos h4, res_map]
    refine xcallr (rTruth b oa cap ys at_ fl (by omega) (by omega)) ?_
    rintro _ _ (⟨x, r, o, c, o1, c1, hr, hc, rfl, rfl⟩ | ⟨e, hr, he, rfl, rfl⟩)
    · refine brq (fun hd => ?_) (fun hd => ?_)
      · refine brun hd.symm ?_
        refine xld rfl rfl ?_
        exact xret (M := rdr b o c r (at_ + ys.length - r.length) 0) (Or.inl ⟨_, r, o, c, by rw [hr]; rfl, hc, by rw [decide_eq_true hd.symm, ← iand1]; rfl, rfl⟩)
      · exact xret (M := rdr b o c r (at_ + ys.length - r.length) 0) (Or.inl ⟨_, r, o, c, by rw [hr]; rfl, hc, by rw [decide_eq_false (fun h => hd h.symm)]; rfl, rfl⟩)
    · refine brq (fun hd => ?_) (fun hd => ?_)
      · refine bruy (hd ▸ he) ?_
        exact xret (M := rdr b oa cap ys at_ e) (Or.inr ⟨e, by rw [hr]; rfl, he, by rw [decide_eq_true hd]; rfl, rfl⟩)
      · exact xret (M := rdr b oa cap ys at_ e) (Or.inr ⟨e, by rw [hr]; rfl, he, by rw [decide_eq_false hd]; rfl, rfl⟩)
  rw [if_neg h4, res_map]
  refine xld rfl rfl ?_
  refine xcallr (rRaw b oa cap ys at_ fl xs.length (by omega) (by omega) (by omega)) ?_
  rintro _ _ (⟨x, r, o, c, o1, c1, hr, hc, rfl, rfl⟩ | ⟨e, hr, he, rfl, rfl⟩)
  · refine brq (fun hd => ?_) (fun hd => ?_)
    · refine brun hd.symm ?_
      refine xld rfl rfl ?_
      refine xshare o1 ?_
      refine xcallr (equal_spec o1 ox c1 cx x xs) ?_
      rintro _ _ ⟨rfl, rfl⟩
      exact xret (M := rdr b o c r (at_ + ys.length - r.length) 0) (Or.inl ⟨_, r, o, c, by rw [hr]; rfl, hc, by rw [decide_eq_true hd.symm]; rfl, rfl⟩)
    · exact xret (M := rdr b o c r (at_ + ys.length - r.length) 0) (Or.inl ⟨_, r, o, c, by rw [hr]; rfl, hc, by rw [decide_eq_false (fun h => hd h.symm)]; rfl, rfl⟩)
  · refine brq (fun hd => ?_) (fun hd => ?_)
    · refine bruy (hd ▸ he) ?_
      exact xret (M := rdr b oa cap ys at_ e) (Or.inr ⟨e, by rw [hr]; rfl, he, by rw [decide_eq_true hd]; rfl, rfl⟩)
    · exact xret (M := rdr b oa cap ys at_ e) (Or.inr ⟨e, by rw [hr]; rfl, he, by rw [decide_eq_false hd]; rfl, rfl⟩)

end Go.X
