/- TopWired: what is laid is read back. -/
import Derived.Test.YtbgjlghhcclooaaW5
namespace Go.X
open Go Go.Proofs

theorem ofNat_toNat {n : Nat} (h : n < 256) : (UInt8.ofNat n).toNat = n := by
  rw [UInt8.toNat_ofNat', Nat.mod_eq_of_lt (by simpa using h)]

theorem pow_step (i : Nat) : 2 ^ (7 * (i + 1)) = 128 * 2 ^ (7 * i) := by rw [show 7 * (i + 1) = 7 + 7 * i by omega, Nat.pow_add]

theorem rdN_num : ∀ (v i n : Nat) (Y : List UInt8), i ≤ 8 → v * 2 ^ (7 * i) < 9223372036854775808 → (0 < i → 0 < v) → rdN i n (num v ++ Y) = .ok (n + v * 2 ^ (7 * i), Y) := by
  intro v
  induction v using Nat.strongRecOn with
  | _ v ih =>
    intro i n Y hi hv h0
    by_cases h : v < 128
    · rw [num_lt h]
      show rdN i n (UInt8.ofNat v :: Y) = _
      have e := ofNat_toNat (show v < 256 by omega)
      rw [rdN, e, if_neg (by omega), if_pos h, Nat.mod_eq_of_lt h]
    · rw [num_ge h]
      show rdN i n (UInt8.ofNat (v % 128 + 128) :: (num (v / 128) ++ Y)) = _
      have e := ofNat_toNat (show v % 128 + 128 < 256 by omega)
      have h8 : i ≤ 7 := by
        rcases Nat.lt_or_ge i 8 with h' | h'
        · omega
        · obtain rfl : i = 8 := by omega
          have : 128 * 2 ^ (7 * 8) ≤ v * 2 ^ (7 * 8) := Nat.mul_le_mul_right _ (by omega)
          omega
      rw [rdN, e, if_neg (by omega), if_neg (by omega)]
      have hsum : (v % 128 + 128) % 128 * 2 ^ (7 * i) + v / 128 * 2 ^ (7 * (i + 1)) = v * 2 ^ (7 * i) := by
        rw [pow_step, ← Nat.mul_assoc, ← Nat.add_mul]; congr 1; omega
      rw [ih (v / 128) (by omega) (i + 1) _ Y (by omega) (by omega) (fun _ => by omega), Nat.add_assoc, hsum]

theorem rdN_short : ∀ (v i n j : Nat), i ≤ 8 → v * 2 ^ (7 * i) < 9223372036854775808 → (0 < i → 0 < v) → j < (num v).length → rdN i n ((num v).take j) = .error 120 := by
  intro v
  induction v using Nat.strongRecOn with
  | _ v ih =>
    intro i n j hi hv h0 hj
    cases j with
    | zero => rfl
    | succ j =>
      by_cases h : v < 128
      · rw [num_lt h] at hj; simp at hj
      · rw [num_ge h] at hj ⊢
        simp only [List.length_cons] at hj
        show rdN i n (UInt8.ofNat (v % 128 + 128) :: (num (v / 128)).take j) = _
        have e := ofNat_toNat (show v % 128 + 128 < 256 by omega)
        have h8 : i ≤ 7 := by
          rcases Nat.lt_or_ge i 8 with h' | h'
          · omega
          · obtain rfl : i = 8 := by omega
            have : 128 * 2 ^ (7 * 8) ≤ v * 2 ^ (7 * 8) := Nat.mul_le_mul_right _ (by omega)
            omega
        rw [rdN, e, if_neg (by omega), if_neg (by omega)]
        have hsum : (v % 128 + 128) % 128 * 2 ^ (7 * i) + v / 128 * 2 ^ (7 * (i + 1)) = v * 2 ^ (7 * i) := by
          rw [pow_step, ← Nat.mul_assoc, ← Nat.add_mul]; congr 1; omega
        exact ih (v / 128) (by omega) (i + 1) _ j (by omega) (by omega) (fun _ => by omega) (by omega)

theorem rdNum_num {g : Int} {v : Nat} (Y : List UInt8) (hv : v < 9223372036854775808) (hg : ¬ g < v) : rdNum g (num v ++ Y) = .ok (v, Y) := by
  unfold rdNum
  rw [rdN_num v 0 0 Y (by decide) (by simpa using hv) (fun h => absurd h (by decide))]
  simp [hg]
theorem rdNum_short {g : Int} {v j : Nat} (hv : v < 9223372036854775808) (hj : j < (num v).length) : rdNum g ((num v).take j) = .error 120 := by
  unfold rdNum
  rw [rdN_short v 0 0 j (by decide) (by simpa using hv) (fun h => absurd h (by decide)) hj]
theorem rdRaw_all (xs Y : List UInt8) : rdRaw xs.length (xs ++ Y) = .ok (xs, Y) := by
  unfold rdRaw
  rw [if_neg (by simp; omega)]
  simp
theorem rdRaw_short {xs : List UInt8} {j : Nat} (h : j < xs.length) : rdRaw xs.length (xs.take j) = .error 120 := by
  unfold rdRaw
  rw [if_pos (by simp; omega)]
theorem rdLong_all {g : Int} (xs Y : List UInt8) (hx : xs.length ≤ 1000) (hg : (xs.length : Int) ≤ g) : rdLong g (num xs.length ++ xs ++ Y) = .ok (xs, Y) := by
  unfold rdLong
  rw [List.append_assoc, rdNum_num (xs ++ Y) (by omega) (by omega)]
  exact rdRaw_all xs Y
theorem rdLong_short {g : Int} {xs : List UInt8} {j : Nat} (hx : xs.length ≤ 1000) (hg : (xs.length : Int) ≤ g) (h : j < (num xs.length ++ xs).length) : rdLong g ((num xs.length ++ xs).take j) = .error 120 := by
  unfold rdLong
  rw [List.take_append]
  rw [List.length_append] at h
  by_cases hj : j < (num xs.length).length
  · rw [show j - (num xs.length).length = 0 by omega, List.take_zero, List.append_nil, rdNum_short (by omega) hj]
  · rw [List.take_of_length_le (by omega), rdNum_num _ (by omega) (by omega)]
    exact rdRaw_short (by omega)
theorem unzz_zz (m : Int) : unzz (zz m) = m := by
  unfold unzz zz
  split <;> split <;> omega

theorem rdP_all (k : UInt8) (n : Int) (xs Y : List UInt8) (hn : -9223372036854775808 ≤ n ∧ n ≤ 9223372036854775807) (hx : xs.length ≤ 1000) : rdP k n xs (pc k n xs ++ Y) = .ok (true, Y) := by
  unfold rdP pc
  split
  · rw [rdNum_num Y (by omega) (by omega)]
    show Except.ok ((((max n 0).toNat : Int) == max n 0), Y) = _
    rw [show (((max n 0).toNat : Int) == max n 0) = true by simp]
  split
  · have hz := zz_lt (n := n / 4) (by omega) (by omega)
    unfold rdSigned
    rw [rdNum_num Y hz (by omega)]
    show Except.ok ((unzz (zz (n / 4)) == n / 4), Y) = _
    rw [unzz_zz, beq_self_eq_true]
  by_cases h2 : k.toNat % 6 = 2
  · rw [if_pos h2, if_pos (.inl h2), rdLong_all xs Y hx (by omega)]
    simp [rdMap]
  rw [if_neg h2]
  by_cases h3 : k.toNat % 6 = 3
  · rw [if_pos h3, if_pos (.inr h3), rdLong_all xs Y hx (by omega)]
    simp [rdMap]
  rw [if_neg h3, if_neg (show ¬ (k.toNat % 6 = 2 ∨ k.toNat % 6 = 3) by omega)]
  split
  · split
    · rename_i h; simp [rdTruth, rdMap, h]
    · rename_i h; simp [rdTruth, rdMap, h]
  · rw [rdRaw_all]
    simp [rdMap]

theorem rdP_short (k : UInt8) (n : Int) (xs : List UInt8) (j : Nat) (hn : -9223372036854775808 ≤ n ∧ n ≤ 9223372036854775807) (hx : xs.length ≤ 1000) (hj : j < (pc k n xs).length) : rdP k n xs ((pc k n xs).take j) = .error 120 := by
  unfold pc at hj
  unfold rdP pc
  split
  · rename_i h
    rw [if_pos h] at hj
    rw [rdNum_short (by omega) hj]; rfl
  rename_i h
  rw [if_neg h] at hj
  split
  · rename_i h1
    rw [if_pos h1] at hj
    have hz := zz_lt (n := n / 4) (by omega) (by omega)
    unfold rdSigned
    rw [rdNum_short hz hj]; rfl
  rename_i h1
  rw [if_neg h1] at hj
  by_cases h2 : k.toNat % 6 = 2
  · rw [if_pos (.inl h2)] at hj
    rw [if_pos h2, if_pos (.inl h2), rdLong_short hx (by omega) hj]
    rfl
  rw [if_neg h2]
  by_cases h3 : k.toNat % 6 = 3
  · rw [if_pos (.inr h3)] at hj
    rw [if_pos h3, if_pos (.inr h3), rdLong_short hx (by omega) hj]
    rfl
  rw [if_neg (show ¬ (k.toNat % 6 = 2 ∨ k.toNat % 6 = 3) by omega)] at hj
  rw [if_neg h3, if_neg (show ¬ (k.toNat % 6 = 2 ∨ k.toNat % 6 = 3) by omega)]
  split
  · rename_i h4
    rw [if_pos h4] at hj
    obtain rfl : j = 0 := by simpa using hj
    rfl
  · rename_i h4
    rw [if_neg h4] at hj
    rw [rdRaw_short hj]; rfl

theorem pc_len (k : UInt8) (n : Int) (xs : List UInt8) (hn : -9223372036854775808 ≤ n ∧ n ≤ 9223372036854775807) (hx : xs.length ≤ 1000) : (pc k n xs).length ≤ xs.length + 11 := by
  unfold pc
  split
  · have := num_len10 (n := (max n 0).toNat) (by omega); omega
  split
  · have hz := zz_lt (n := n / 4) (by omega) (by omega)
    have := num_len10 (n := zz (n / 4)) (by omega); omega
  split
  · have := num_len10 (n := xs.length) (by omega); simp; omega
  split
  · simp
  · omega

/-- A number that is told in more bytes than need be. -/
theorem rdNum_form {g : Int} {c0 c1 c2 : UInt8} (h0 : 128 ≤ c0.toNat) (h1 : 128 ≤ c1.toNat) (h2 : 128 ≤ c2.toNat) : rdNum g [c0, c1, c2, 0] = .error 121 := by
  unfold rdNum
  rw [rdN, if_neg (by omega), if_neg (by omega), rdN, if_neg (by omega), if_neg (by omega), rdN, if_neg (by omega), if_neg (by omega), rdN, if_pos (by right; exact ⟨by decide, rfl⟩)]
theorem rdNum_long {m : Nat} (hm : m < 65536) : rdNum m (num (m + 1)) = .error 3 := by
  unfold rdNum
  have := rdN_num (m + 1) 0 0 [] (by decide) (by omega) (fun h => absurd h (by decide))
  rw [List.append_nil] at this
  rw [this]
  simp only
  rw [if_pos (by omega)]
end Go.X
