/- package wire: the reader. -/
import Derived.Test.YtbgjlghhcclooaaW1
import Derived.Test.YtbgjlghhcclooaaXBag
namespace Go.X
open Go Go.Proofs

instance : Mixed Try.prog := ⟨by kernel_rfl⟩

theorem rdv {P : Program} {T : Tab} [c : TabC P T] {t : TypeId} {b off : Nat} {L L' : List Assn} {e : TypeId} {cs : List Value} {K : Value → Prop} {v : Value} [t' : TakePts b L e cs L']
    (h1 : one T t = true) (h2 : cs[off]? = some v) (k : K v) : RdVC P t ⟨b, off, none⟩ L K :=
  ⟨fun w R o => ⟨v, load_one c.ok h1 (v := v) (by rw [cell_of (t'.out w R o).of_obj]; simpa using h2), k⟩⟩

/-- What is left of some bytes. -/
abbrev lft (b : Nat) (oa : Option Addr) (cap : Nat) (xs : List UInt8) (at_ : Int) : List Assn := [pts b 160 [.slice oa xs.length cap, .int .i64 at_], sof 1 eB oa cap xs]

theorem raw_ok (b : Nat) (oa : Option Addr) (cap : Nat) (xs : List UInt8) (at_ : Int) (n : Nat) (hn : n ≤ xs.length) (hl : xs.length ≤ 1000000000) (ha : 0 ≤ at_ ∧ at_ ≤ 1000000000) :
    FnSpec Try.prog 132 [.pointer (some ⟨b, 0, none⟩), .int .i64 n] (lft b oa cap xs at_)
      (Ret fun v L => ∃ o c o' c', v = .tuple #[.slice o (xs.take n).length c, .int .i64 0] ∧ L = lft b o' c' (xs.drop n) (at_ + n) ++ [vof 5 1 eB o c (xs.take n)]) := by
  refine .intro ttOK (fun _ _ => Try.call132 _ _) Try.func132 rfl rfl rfl rfl ?_
  refine xld rfl rfl ?_
  refine brn (by omega) ?_
  refine xld rfl rfl ?_
  refine xslc rfl .no (h := n) (.is rfl) rfl (Nat.zero_le _) hn fun o1 c1 => ?_
  rw [List.drop_zero]
  refine xcallr (clone_spec o1 c1 (xs.take n) (by simp; omega)) ?_
  rintro _ _ ⟨o, c, rfl, rfl⟩
  refine xdrawl [(0, 2), (1, 2), (2, 2), (3, 2), (4, 2), (6, 2), (8, 2), (9, 2), (10, 2), (12, 2), (5, 1), (7, 1), (11, 1), (13, 2), (14, 2), (15, 2), (16, 0), (17, 2), (18, 2), (19, 0)] [] (by decide +kernel) ?_
  refine hld rfl rfl ?_
  refine hslc rfl (l := n) (.is rfl) (h := xs.length) .no rfl hn (Nat.le_refl _) fun o' c' => ?_
  rw [List.take_length]
  refine hld rfl rfl ?_
  refine ari (by omega) ?_
  refine xst rfl rfl rfl ?_
  refine xst rfl rfl rfl ?_
  exact xret (M := lft b o' c' (xs.drop n) (at_ + n) ++ [vof 5 1 eB o c (xs.take n)]) ⟨o, c, o', c', rfl, rfl⟩

theorem raw_bad (b : Nat) (oa : Option Addr) (cap : Nat) (xs : List UInt8) (at_ : Int) (n : Int) (hn : xs.length < n) :
    FnSpec Try.prog 132 [.pointer (some ⟨b, 0, none⟩), .int .i64 n] (lft b oa cap xs at_)
      (Ret fun v L => v = .tuple #[.slice none 0 0, .int .i64 120] ∧ L = lft b oa cap xs at_) := by
  refine .intro ttOK (fun _ _ => Try.call132 _ _) Try.func132 rfl rfl rfl rfl ?_
  refine xld rfl rfl ?_
  refine bry (by omega) ?_
  exact xret (M := lft b oa cap xs at_) ⟨rfl, rfl⟩


theorem raw1 (b : Nat) (oa : Option Addr) (cap : Nat) (c : UInt8) (cs : List UInt8) (at_ : Int) (hl : cs.length < 1000000000) (ha : 0 ≤ at_ ∧ at_ ≤ 1000000000) :
    FnSpec Try.prog 132 [.pointer (some ⟨b, 0, none⟩), .int .i64 1] (lft b oa cap (c :: cs) at_)
      (Ret fun v L => ∃ o k o' k', v = .tuple #[.slice o 1 k, .int .i64 0] ∧ L = [pts b 160 [.slice o' cs.length k', .int .i64 (at_ + 1)], sof 1 eB o' k' cs, vof 5 1 eB o k [c]]) :=
  (raw_ok b oa cap (c :: cs) at_ 1 (by simp) (by simp; omega) ha).mono fun e L ⟨v, he, o, k, o', k', hv, hL⟩ => ⟨v, he, o, k, o', k', hv, hL⟩

/-- A number is read: from its i-th byte on, n so far. -/
def rdN : Nat → Nat → List UInt8 → Except Int (Nat × List UInt8)
  | _, _, [] => .error 120
  | i, n, c :: cs => if (i = 8 ∧ 128 ≤ c.toNat) ∨ (0 < i ∧ c.toNat = 0) then .error 121 else
    if c.toNat < 128 then .ok (n + c.toNat % 128 * 2 ^ (7 * i), cs) else rdN (i + 1) (n + c.toNat % 128 * 2 ^ (7 * i)) cs
def rdNum (g : Int) (xs : List UInt8) : Except Int (Nat × List UInt8) := match rdN 0 0 xs with
  | .error e => .error e
  | .ok (n, r) => if g < n then .error 3 else .ok (n, r)

theorem rdN_cut {i n : Nat} {xs : List UInt8} {m : Nat} {r : List UInt8} (h : rdN i n xs = .ok (m, r)) : r.length ≤ xs.length := by
  induction xs generalizing i n with
  | nil => cases h
  | cons c cs ih =>
    unfold rdN at h
    split at h
    · cases h
    · split at h
      · cases h; simp
      · have := ih h; simp; omega
theorem rdN_lt {i n : Nat} {xs : List UInt8} {m : Nat} {r : List UInt8} (hi : i ≤ 8) (hn : n < 2 ^ (7 * i)) (h : rdN i n xs = .ok (m, r)) : m < 9223372036854775808 := by
  induction xs generalizing i n with
  | nil => cases h
  | cons c cs ih =>
    have hc : c.toNat % 128 < 128 := Nat.mod_lt _ (by decide)
    have hn' : n + c.toNat % 128 * 2 ^ (7 * i) < 2 ^ (7 * (i + 1)) := by
      have : 2 ^ (7 * (i + 1)) = 128 * 2 ^ (7 * i) := by rw [show 7 * (i + 1) = 7 + 7 * i by omega, Nat.pow_add]
      rw [this]
      calc n + c.toNat % 128 * 2 ^ (7 * i) < 2 ^ (7 * i) + c.toNat % 128 * 2 ^ (7 * i) := by omega
        _ = (c.toNat % 128 + 1) * 2 ^ (7 * i) := by rw [Nat.add_mul, Nat.one_mul, Nat.add_comm]
        _ ≤ 128 * 2 ^ (7 * i) := Nat.mul_le_mul_right _ (by omega)
    unfold rdN at h
    split at h
    · cases h
    · rename_i hno
      split at h
      · cases h
        have : 2 ^ (7 * (i + 1)) ≤ 2 ^ 63 := Nat.pow_le_pow_right (by decide) (by omega)
        omega
      · by_cases h8 : i = 8
        · omega
        · exact ih (by omega) hn' h

/-- How something is read off what is left: what it is and what is left then, or an error. -/
def LOut {α : Type} (res : Except Int (α × List UInt8)) (b : Nat) (xs : List UInt8) (at_ : Int) (val : α → Option Addr → Nat → Value) (own : α → Option Addr → Nat → List Assn) (v0 v : Value) (L : List Assn) : Prop :=
  (∃ x r o c o' c', res = .ok (x, r) ∧ r.length ≤ xs.length ∧ v = .tuple #[val x o' c', .int .i64 0] ∧ L = pts b 160 [.slice o r.length c, .int .i64 (at_ + xs.length - r.length)] :: sof 1 eB o c r :: own x o' c') ∨
  (∃ e cs N, res = .error e ∧ e ≠ 0 ∧ v = .tuple #[v0, .int .i64 e] ∧ L = pts b 160 cs :: N)

abbrev valN (n : Nat) (_ : Option Addr) (_ : Nat) : Value := .int .i64 n
abbrev ownN (_ : Nat) (_ : Option Addr) (_ : Nat) : List Assn := []
abbrev valB (ys : List UInt8) (o : Option Addr) (c : Nat) : Value := .slice o ys.length c
abbrev ownB (ys : List UInt8) (o : Option Addr) (c : Nat) : List Assn := [vof 5 1 eB o c ys]
abbrev valT (t : Bool) (_ : Option Addr) (_ : Nat) : Value := .bool t
abbrev ownT (_ : Bool) (_ : Option Addr) (_ : Nat) : List Assn := []

theorem leftNumber (b : Nat) (oa : Option Addr) (cap : Nat) (xs : List UInt8) (at_ g : Int) (hl : xs.length ≤ 1000000) (ha : 0 ≤ at_ ∧ at_ ≤ 1000000) :
    FnSpec Try.prog 78 [.pointer (some ⟨b, 0, none⟩), .int .i64 g] (lft b oa cap xs at_) (Ret (LOut (rdNum g xs) b xs at_ valN ownN (.int .i64 0))) := by
  refine .intro ttOK (fun _ _ => Try.call78 _ _) Try.func78 rfl rfl rfl rfl ?_
  refine xloop (ι := Nat × Nat × List UInt8 × Option Addr × Nat × Int) (fun (i, n, ys, o, c, a) => [(0, .v (.pointer (some ⟨b, 0, none⟩))), (1, .v (.int .i64 g)), (4, .v (.int .i64 n)), (5, .v (.int .i64 0)), (6, .v (.int .i64 i))])
    (fun (i, n, ys, o, c, a) => lft b o c ys a) (fun (i, n, ys, o, c, a) => rdN i n ys = rdN 0 0 xs ∧ i ≤ 8 ∧ n < 2 ^ (7 * i) ∧ a = at_ + xs.length - ys.length ∧ ys.length ≤ xs.length) (fun (_, _, ys, _) => ys.length)
    (0, 0, xs, oa, cap, at_) ⟨⟨rfl, rfl, rfl, rfl, rfl, trivial⟩, Ent.refl _, ⟨rfl, by omega, by decide, by omega, by omega⟩, rfl⟩ (fun _ => rfl) ?_
  rintro ⟨i, n, ys, o, c, a⟩ ⟨h1, h2, h3, h4, h5⟩
  cases ys with
  | nil =>
    refine xcallr (raw_bad b o c [] a 1 (by decide)) ?_
    rintro _ _ ⟨rfl, rfl⟩
    refine bruy (by decide) ?_
    exact xret (M := lft b o c [] a) (Or.inr ⟨120, _, _, by unfold rdNum; rw [← h1]; rfl, by decide, rfl, rfl⟩)
  | cons x ys =>
    have hlen : (x :: ys).length = ys.length + 1 := rfl
    have hx := x.toNat_lt
    have hm : x.toNat % 128 < 128 := Nat.mod_lt _ (by decide)
    have hp : 2 ^ (7 * i) ≤ 2 ^ 56 := Nat.pow_le_pow_right (by decide) (by omega)
    have hb : n + x.toNat % 128 * 2 ^ (7 * i) < 9223372036854775808 := by
      have : x.toNat % 128 * 2 ^ (7 * i) ≤ 127 * 2 ^ 56 := Nat.mul_le_mul (by omega) hp
      omega
    refine xcallr (raw1 b o c x ys a (by omega) (by omega)) ?_
    rintro _ _ ⟨o1, k1, o2, k2, rfl, rfl⟩
    refine brun rfl ?_
    refine xidx rfl (Nat.le_refl _) (by decide) ?_
    refine xlde (x := x) rfl rfl rfl ?_
    have bad : (i = 8 ∧ 128 ≤ x.toNat) ∨ (0 < i ∧ x.toNat = 0) → rdNum g xs = .error 121 := fun h => by unfold rdNum; rw [← h1, rdN, if_pos h]
    have ecv : IntKind.i64.wrap (iand .u8 (x.toNat : Int) 127) = ((x.toNat % 128 : Nat) : Int) := by rw [iand127]; exact wrap64_in (by omega)
    have got : x.toNat < 128 → ¬ ((i = 8 ∧ 128 ≤ x.toNat) ∨ (0 < i ∧ x.toNat = 0)) → rdN 0 0 xs = .ok (n + x.toNat % 128 * 2 ^ (7 * i), ys) := fun h h' => by rw [← h1, rdN, if_neg h', if_pos h]
    have big : g < ((n + x.toNat % 128 * 2 ^ (7 * i) : Nat) : Int) → x.toNat < 128 → ¬ ((i = 8 ∧ 128 ≤ x.toNat) ∨ (0 < i ∧ x.toNat = 0)) → rdNum g xs = .error 3 := fun h1 h2 h3 => by unfold rdNum; rw [got h2 h3]; simp only; rw [if_pos h1]
    have fine : ¬ g < ((n + x.toNat % 128 * 2 ^ (7 * i) : Nat) : Int) → x.toNat < 128 → ¬ ((i = 8 ∧ 128 ≤ x.toNat) ∨ (0 < i ∧ x.toNat = 0)) → rdNum g xs = .ok (n + x.toNat % 128 * 2 ^ (7 * i), ys) := fun h1 h2 h3 => by unfold rdNum; rw [got h2 h3]; simp only; rw [if_neg h1]
    -- the byte is put to the number
    have put : IntKind.i64.wrap (((x.toNat % 128 : Nat) : Int) * ((2 ^ min (7 * i) IntKind.i64.bits : Nat) : Int)) = ((x.toNat % 128 * 2 ^ (7 * i) : Nat) : Int) := by
      have : min (7 * i) IntKind.i64.bits = 7 * i := by show min (7 * i) 64 = 7 * i; omega
      rw [this, ← Int.natCast_mul]
      exact wrap64_in (by omega)
    have hlow := ior_low (c := x.toNat % 128) h3 hb
    have next : n + x.toNat % 128 * 2 ^ (7 * i) < 2 ^ (7 * (i + 1)) := by
      have : 2 ^ (7 * (i + 1)) = 128 * 2 ^ (7 * i) := by rw [show 7 * (i + 1) = 7 + 7 * i by omega, Nat.pow_add]
      rw [this]
      have : (x.toNat % 128 + 1) * 2 ^ (7 * i) ≤ 128 * 2 ^ (7 * i) := Nat.mul_le_mul_right _ (by omega)
      rw [Nat.add_mul, Nat.one_mul] at this
      omega
    have go : ∀ {f : Bool → Prop} {S : Prop}, (x.toNat < 128 → f true) → (¬ x.toNat < 128 → f false) → Br (decide ((x.toNat : Int) < 128)) f S := fun a b => brd (fun h => a (by omega)) (fun h => b (by omega))
    refine brq (fun h8 => ?_) (fun h8 => ?_)
    · refine brd (fun hc => ?_) (fun hc => ?_)
      · exact xret (M := lft b o2 k2 ys (a + 1)) (Or.inr ⟨121, _, _, bad (by omega), by decide, rfl, rfl⟩)
      · refine bry (by omega) ?_
        refine brq (fun h0 => ?_) (fun h0 => ?_)
        · exact xret (M := lft b o2 k2 ys (a + 1)) (Or.inr ⟨121, _, _, bad (by omega), by decide, rfl, rfl⟩)
        · refine are ecv ?_
          refine ari (by omega) ?_
          refine xshl (7 * i) (by omega) put ?_
          refine go (fun h => ?_) (fun h => ?_)
          · rw [hlow]
            refine brd (fun hg => ?_) (fun hg => ?_)
            · exact xret (M := lft b o2 k2 ys (a + 1)) (Or.inr ⟨3, _, _, big hg h (by omega), by decide, rfl, rfl⟩)
            · exact xret (M := lft b o2 k2 ys (a + 1)) (Or.inl ⟨_, ys, o2, k2, none, 0, fine hg h (by omega), by omega, rfl, by rw [show a + 1 = at_ + xs.length - ys.length by omega]⟩)
          · omega
    · refine brd (fun hi => ?_) (fun hi => ?_)
      · refine brq (fun h0 => ?_) (fun h0 => ?_)
        · exact xret (M := lft b o2 k2 ys (a + 1)) (Or.inr ⟨121, _, _, bad (by omega), by decide, rfl, rfl⟩)
        · refine are ecv ?_
          refine ari (by omega) ?_
          refine xshl (7 * i) (by omega) put ?_
          refine go (fun h => ?_) (fun h => ?_)
          · rw [hlow]
            refine brd (fun hg => ?_) (fun hg => ?_)
            · exact xret (M := lft b o2 k2 ys (a + 1)) (Or.inr ⟨3, _, _, big hg h (by omega), by decide, rfl, rfl⟩)
            · exact xret (M := lft b o2 k2 ys (a + 1)) (Or.inl ⟨_, ys, o2, k2, none, 0, fine hg h (by omega), by omega, rfl, by rw [show a + 1 = at_ + xs.length - ys.length by omega]⟩)
          · rw [hlow]
            refine ari (by omega) ?_
            exact ⟨(i + 1, n + x.toNat % 128 * 2 ^ (7 * i), ys, o2, k2, a + 1), ⟨⟨rfl, rfl, rfl, rfl, rfl, trivial⟩, Takes.ent, ⟨by rw [← h1, rdN, if_neg (by omega), if_neg h], by omega, next, by omega, by omega⟩, rfl⟩, by show ys.length < (x :: ys).length; omega⟩
      · refine are ecv ?_
        refine ari (by omega) ?_
        refine xshl (7 * i) (by omega) put ?_
        refine go (fun h => ?_) (fun h => ?_)
        · rw [hlow]
          refine brd (fun hg => ?_) (fun hg => ?_)
          · exact xret (M := lft b o2 k2 ys (a + 1)) (Or.inr ⟨3, _, _, big hg h (by omega), by decide, rfl, rfl⟩)
          · exact xret (M := lft b o2 k2 ys (a + 1)) (Or.inl ⟨_, ys, o2, k2, none, 0, fine hg h (by omega), by omega, rfl, by rw [show a + 1 = at_ + xs.length - ys.length by omega]⟩)
        · rw [hlow]
          refine ari (by omega) ?_
          exact ⟨(i + 1, n + x.toNat % 128 * 2 ^ (7 * i), ys, o2, k2, a + 1), ⟨⟨rfl, rfl, rfl, rfl, rfl, trivial⟩, Takes.ent, ⟨by rw [← h1, rdN, if_neg (by omega), if_neg h], by omega, next, by omega, by omega⟩, rfl⟩, by show ys.length < (x :: ys).length; omega⟩

end Go.X
