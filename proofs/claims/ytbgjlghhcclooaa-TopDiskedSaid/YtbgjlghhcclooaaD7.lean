/- TopDisked: what its inner functions do. -/
import Derived.Test.YtbgjlghhcclooaaD6
namespace Go.X
open Go Go.Proofs

theorem done_spec (b1 b2 : Nat) (st ar : Int) (hs : 0 ≤ st ∧ st ≤ 1000000) (ha : -1 ≤ ar ∧ ar ≤ 1000000) : FnSpec Try.prog 91 [.pointer (some ⟨b1, 0, none⟩), .pointer (some ⟨b2, 0, none⟩)] [pts b1 3 [.int .i64 st], pts b2 3 [.int .i64 ar]]
    (Ret fun v L => v = .tuple #[] ∧ L = [pts b1 3 [.int .i64 (st + 1)], pts b2 3 [.int .i64 (if ar > 0 then ar - 1 else ar)]]) := by
  refine .intro ttOK (fun _ _ => Try.call91 _ _) Try.func91 rfl rfl rfl rfl ?_
  refine xld rfl rfl ?_
  refine ari (by omega) ?_
  refine xst rfl rfl rfl ?_
  refine xld rfl rfl ?_
  refine brd (fun h => ?_) (fun h => ?_)
  · rw [if_pos h]
    refine xld rfl rfl ?_
    refine ari (by omega) ?_
    refine xst rfl rfl rfl ?_
    exact xret (M := [pts b1 3 [.int .i64 (st + 1)], pts b2 3 [.int .i64 (ar - 1)]]) ⟨rfl, rfl⟩
  · rw [if_neg h]
    exact xret (M := [pts b1 3 [.int .i64 (st + 1)], pts b2 3 [.int .i64 ar]]) ⟨rfl, rfl⟩

theorem amg2_spec (k : Int) (n : Nat) (m : Int) (hm : m = n + 1) (hn : n ≤ 1000000) : FnSpec Try.prog 97 [.int .i64 k, .int .i64 m] [] (Ret fun v L => v = .int .i64 (amg k n) ∧ L = []) := by
  subst hm
  refine .intro ttOK (fun _ _ => Try.call97 _ _) Try.func97 rfl rfl rfl rfl ?_
  have h0 := Int.emod_nonneg k (show ((n : Int) + 1) ≠ 0 by omega)
  have h1 := Int.emod_lt_of_pos k (show (0 : Int) < n + 1 by omega)
  have e0 : -(n + 1 : Int) < k.tmod (n + 1) ∧ k.tmod (n + 1) < n + 1 := by
    rw [Int.tmod_eq_emod]
    split <;> omega
  have e : (k.tmod (n + 1) + (n + 1)).tmod (n + 1) = (amg k n : Int) := by
    unfold amg
    rw [Int.tmod_eq_emod_of_nonneg (by omega), Int.tmod_eq_emod]
    split
    · have : k % ((n : Int) + 1) - ((0 : Nat) : Int) + (n + 1) = k % ((n : Int) + 1) + (n + 1) := by omega
      rw [this, Int.add_emod_right, Int.emod_emod_of_dvd _ (Int.dvd_refl _)]
      omega
    · have : k % ((n : Int) + 1) - (((n : Int) + 1).natAbs : Int) + (n + 1) = k % ((n : Int) + 1) := by omega
      rw [this, Int.emod_emod_of_dvd _ (Int.dvd_refl _)]
      omega
  refine xrem (by omega) ?_
  refine ari (by omega) ?_
  refine xrem (by omega) ?_
  rw [e]
  exact xret (M := []) ⟨rfl, rfl⟩

theorem cloneW_spec (oa : Option Addr) (cap : Nat) (xs : List Wr) (hl : xs.length ≤ 2147483648) : FnSpec Try.prog 93 [.slice oa xs.length cap] [sof 2 eW oa cap xs]
    (Ret fun v L => ∃ o c, v = .slice o xs.length c ∧ L = [vof 195 2 eW o c xs]) := by
  refine .intro ttOK (fun _ _ => Try.call93 _ _) Try.func93 rfl rfl rfl rfl ?_
  refine br (fun h => ?_) (fun h => ?_)
  · obtain rfl : oa = none := by simpa using h
    refine r_know (φ := xs = []) (fun w R o => ?_) fun h => ?_
    · obtain ⟨hr, -⟩ := o.sof
      cases xs with
      | nil => rfl
      | cons v vs => obtain ⟨a, ea, _⟩ := hr 0 _ rfl; cases ea
    subst h
    exact r_ent (Ent.vof0 195 2 eW _) (xret (M := [vof 195 2 eW none 0 []]) ⟨none, 0, rfl, rfl⟩)
  · refine xrow (el := 195) (k := 2) rfl rfl rfl rfl fun b => ?_
    refine xown b 2 eW ([] : List Wr) rfl (fun _ m => by cases m) (Nat.zero_le _) ?_
    refine xappq (n := 0) xs (List.nil_append xs) rfl rfl rfl hl fun oa' cap' => ?_
    exact xret (M := [vof 195 2 eW oa' cap' xs]) ⟨oa', cap', rfl, rfl⟩

theorem equal_specv (oa ob : Option Addr) (ca cb : Nat) (xs ys : List UInt8) : FnSpec Try.prog 18 [.slice oa xs.length ca, .slice ob ys.length cb] [sof 1 eB oa ca xs, vof 5 1 eB ob cb ys] (Ret fun v L => v = .bool (decide (xs = ys)) ∧ L = [vof 5 1 eB ob cb ys]) := by
  refine .intro ttOK (fun _ _ => Try.call18 _ _) Try.func18 rfl rfl rfl rfl ?_
  refine xcnv_bs (xs := xs) rfl rfl rfl rfl rfl rfl rfl rfl ?_
  refine xcnv_bs (xs := ys) rfl rfl rfl rfl rfl rfl rfl rfl ?_
  refine xret (M := [vof 5 1 eB ob cb ys]) ⟨?_, rfl⟩
  have e : (xs == ys) = decide (xs = ys) := by rw [Bool.eq_iff_iff]; simp
  rw [strOf, strOf, ByteArray.toList_mk, ByteArray.toList_mk, e]
  rfl

theorem equal_specv2 (oa ob : Option Addr) (ca cb n m : Nat) (xs ys : List UInt8) (hn : n = xs.length) (hm : m = ys.length) : FnSpec Try.prog 18 [.slice oa n ca, .slice ob m cb] [sof 1 eB oa ca xs, vof 5 1 eB ob cb ys] (Ret fun v L => v = .bool (decide (xs = ys)) ∧ L = [vof 5 1 eB ob cb ys]) := by
  subst hn; subst hm
  exact equal_specv oa ob ca cb xs ys
theorem clone_specv2 (oa : Option Addr) (cap m : Nat) (xs : List UInt8) (hm : m = xs.length) (hl : xs.length ≤ 2147483648) : FnSpec Try.prog 13 [.slice oa m cap] [vof 5 1 eB oa cap xs]
    (Ret fun v L => ∃ o c, v = .slice o m c ∧ L = [vof 5 1 eB o c xs, vof 5 1 eB oa cap xs]) := by
  subst hm
  exact clone_specv oa cap xs hl

theorem new_spec (n : Nat) (h0 : 0 < n) (h1 : n ≤ 1000000) : FnSpec Try.prog 90 [.int .i64 n] [] (Ret fun v L => ∃ b, v = .tuple #[.pointer (some ⟨b, 0, none⟩), .int .i64 0] ∧ DK b ⟨List.replicate n 0, List.replicate n 0, [], 0, -1⟩ L) := by
  refine .intro ttOK (fun _ _ => Try.call90 _ _) Try.func90 rfl rfl rfl rfl ?_
  refine brn (by omega) ?_
  refine brn (by omega) ?_
  refine xmks (el := 5) (k := 1) eB (0 : UInt8) n rfl rfl rfl rfl rfl rfl (by omega) fun bz => ?_
  refine xshare (some ⟨bz, 0, none⟩) ?_
  have sp := of_spec (some ⟨bz, 0, none⟩) n (List.replicate n 0) (by rw [List.length_replicate]; exact h0) (by rw [List.length_replicate]; exact h1)
  rw [List.length_replicate] at sp
  refine xcallr sp ?_
  rintro _ N ⟨b, rfl, hN⟩
  exact xret (M := N) ⟨b, rfl, hN⟩
end Go.X
