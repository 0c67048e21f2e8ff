/- Bytes: numbers, Clone, Equal, Grow, Concat. -/
import Derived.Test.YtbgjlghhcclooaaXCpy
import Derived.Test.YtbgjlghhcclooaaTabS
namespace Go.X
open Go Go.Proofs

instance : Mixed Try.prog := ⟨by kernel_rfl⟩

/-- A number's bytes: seven bits a byte, the lowest ahead. -/
def num (n : Nat) : List UInt8 := if h : n < 128 then [UInt8.ofNat n] else UInt8.ofNat (n % 128 + 128) :: num (n / 128)
  termination_by n
  decreasing_by omega

theorem num_lt {n : Nat} (h : n < 128) : num n = [UInt8.ofNat n] := by unfold num; simp [h]
theorem num_ge {n : Nat} (h : ¬ n < 128) : num n = UInt8.ofNat (n % 128 + 128) :: num (n / 128) := by rw [num]; simp [h]
theorem num_len (k : Nat) : ∀ n, n < 128 ^ (k + 1) → (num n).length ≤ k + 1 := by
  induction k with
  | zero => intro n h; rw [num_lt (by simpa using h)]; simp
  | succ k ih =>
    intro n h
    by_cases hn : n < 128
    · rw [num_lt hn]; simp
    · rw [num_ge hn]
      have := ih (n / 128) (by rw [Nat.div_lt_iff_lt_mul (by decide)]; rw [Nat.pow_succ] at h; exact h)
      simpa using this
theorem num_len10 {n : Nat} (h : n < 18446744073709551616) : (num n).length ≤ 10 := num_len 9 n (by omega)

theorem wrap8 (n : Nat) : IntKind.u8.wrap (n : Int) = ((n % 256 : Nat) : Int) := by show (n : Int) % 256 = _; omega
theorem or128 (n : Nat) : ior .u8 (IntKind.u8.wrap n) 128 = ((UInt8.ofNat (n % 128 + 128)).toNat : Int) := by
  have key : ∀ x : Fin 256, ior .u8 (x : Nat) 128 = (((x : Nat) % 128 + 128 : Nat) : Int) := by decide +kernel
  have := key ⟨n % 256, Nat.mod_lt _ (by decide)⟩
  rw [wrap8, this]
  show (((n % 256) % 128 + 128 : Nat) : Int) = _
  congr 1
  rw [UInt8.toNat_ofNat']
  omega

def RB (xs : List UInt8) (v : Value) (L : List Assn) : Prop := ∃ oa cap, v = .slice oa xs.length cap ∧ L = [vof 5 1 eB oa cap xs]

theorem ofNat_toInt {n : Nat} (h : n < 256) : ((UInt8.ofNat n).toNat : Int) = (n : Int) := by
  rw [UInt8.toNat_ofNat', Nat.mod_eq_of_lt (by simpa using h)]

theorem number_spec (n : Nat) (hn : n < 18446744073709551616) : FnSpec Try.prog 24 [.int .u64 n] [] (Ret (RB (num n))) := by
  have hlen := num_len10 hn
  refine .intro ttOK (fun _ _ => Try.call24 _ _) Try.func24 rfl rfl rfl rfl ?_
  refine c_ent (Ent.vof0 5 1 eB _) ?_
  refine xloop (ι := Nat × Option Addr × Nat × List UInt8) (fun (m, oa, cap, acc) => [(0, .v (.int .u64 m)), (3, .v (.slice oa acc.length cap))]) (fun (m, oa, cap, acc) => [vof 5 1 eB oa cap acc])
    (fun (m, oa, cap, acc) => acc ++ num m = num n ∧ m ≤ n) (fun (m, _) => m) (n, none, 0, []) ⟨⟨rfl, rfl, trivial⟩, Ent.refl _, ⟨rfl, Nat.le_refl _⟩, rfl⟩ (fun _ => rfl) ?_
  rintro ⟨m, oa, cap, acc⟩ ⟨h1, h2⟩
  refine brd (fun h => ?_) (fun h => ?_)
  · refine ar ?_
    refine xrow (el := 5) (k := 1) rfl rfl rfl rfl fun b => ?_
    have hm : ¬ m < 128 := by omega
    rw [num_ge hm] at h1
    have hal : acc.length + 1 ≤ 10 := by
      have := congrArg List.length h1
      simp at this; omega
    refine xappl [UInt8.ofNat (m % 128 + 128)] rfl rfl rfl (by simp only [List.flatMap_cons, List.flatMap_nil, eB, ← or128]; rfl) (fun y _ => fineB y) (by simp; omega) fun oa' cap' => ?_
    refine ⟨(m / 128, oa', cap', acc ++ [UInt8.ofNat (m % 128 + 128)]), ⟨⟨rfl, rfl, trivial⟩, Ent.refl _, ⟨by simpa using h1, Nat.le_trans (Nat.div_le_self _ _) h2⟩, rfl⟩, Nat.div_lt_self (by omega) (by decide)⟩
  · refine arb (by omega) ?_
    refine xrow (el := 5) (k := 1) rfl rfl rfl rfl fun b => ?_
    have hm : m < 128 := by omega
    rw [num_lt hm] at h1
    have hal : acc.length + 1 ≤ 10 := by
      have := congrArg List.length h1
      simp at this; omega
    refine xappl [UInt8.ofNat m] rfl rfl rfl (by simp only [List.flatMap_cons, eB, ofNat_toInt (show m < 256 by omega)]; rfl) (fun y _ => fineB y) (by simp; omega) fun oa' cap' => ?_
    rw [h1]
    exact xret (M := [vof 5 1 eB oa' cap' (num n)]) ⟨oa', cap', rfl, rfl⟩

theorem clone_spec (oa : Option Addr) (cap : Nat) (xs : List UInt8) (hl : xs.length ≤ 2147483648) : FnSpec Try.prog 13 [.slice oa xs.length cap] [sof 1 eB oa cap xs] (Ret (RB xs)) := by
  refine .intro ttOK (fun _ _ => Try.call13 _ _) Try.func13 rfl rfl rfl rfl ?_
  refine br (fun h => ?_) (fun h => ?_)
  · obtain rfl : oa = none := by simpa using h
    refine r_know (φ := xs = []) (fun w R o => ?_) fun h => ?_
    · obtain ⟨hr, -⟩ := o.sof
      cases xs with
      | nil => rfl
      | cons v vs => obtain ⟨a, ea, _⟩ := hr 0 _ rfl; cases ea
    subst h
    exact r_ent ((Ent.nil _).trans (Ent.vof0 5 1 eB _)) (xret (M := [vof 5 1 eB none 0 []]) ⟨none, 0, rfl, rfl⟩)
  · refine xrow (el := 5) (k := 1) rfl rfl rfl rfl fun b => ?_
    refine xown b 1 eB ([] : List UInt8) rfl (fun _ m => by cases m) (Nat.zero_le _) ?_
    refine xappq (n := 0) xs (List.nil_append xs) rfl rfl rfl hl fun oa' cap' => ?_
    exact xret (M := [vof 5 1 eB oa' cap' xs]) ⟨oa', cap', rfl, rfl⟩

theorem equal_spec (oa ob : Option Addr) (ca cb : Nat) (xs ys : List UInt8) : FnSpec Try.prog 18 [.slice oa xs.length ca, .slice ob ys.length cb] [sof 1 eB oa ca xs, sof 1 eB ob cb ys] (Ret fun v L => v = .bool (decide (xs = ys)) ∧ L = []) := by
  refine .intro ttOK (fun _ _ => Try.call18 _ _) Try.func18 rfl rfl rfl rfl ?_
  refine xcnv_bs (xs := xs) rfl rfl rfl rfl rfl rfl rfl rfl ?_
  refine xcnv_bs (xs := ys) rfl rfl rfl rfl rfl rfl rfl rfl ?_
  refine xret (M := []) ⟨?_, rfl⟩
  have e : (xs == ys) = decide (xs = ys) := by rw [Bool.eq_iff_iff]; simp
  rw [strOf, strOf, ByteArray.toList_mk, ByteArray.toList_mk, e]
  rfl


/-- The other three that lay a number. -/
theorem wnumber64_spec (n : Nat) (hn : n < 9223372036854775808) : FnSpec Try.prog 69 [.int .i64 n] [] (Ret (RB (num n))) := by
  have hlen := num_len10 (n := n) (by omega)
  refine .intro ttOK (fun _ _ => Try.call69 _ _) Try.func69 rfl rfl rfl rfl ?_
  refine c_ent (Ent.vof0 5 1 eB _) ?_
  refine xloop (ι := Nat × Option Addr × Nat × List UInt8) (fun (m, oa, cap, acc) => [(0, .v (.int .i64 m)), (2, .v (.slice oa acc.length cap))]) (fun (m, oa, cap, acc) => [vof 5 1 eB oa cap acc])
    (fun (m, oa, cap, acc) => acc ++ num m = num n ∧ m ≤ n) (fun (m, _) => m) (n, none, 0, []) ⟨⟨rfl, rfl, trivial⟩, Ent.refl _, ⟨rfl, Nat.le_refl _⟩, rfl⟩ (fun _ => rfl) ?_
  rintro ⟨m, oa, cap, acc⟩ ⟨h1, h2⟩
  refine brd (fun h => ?_) (fun h => ?_)
  · refine ar ?_
    refine xrow (el := 5) (k := 1) rfl rfl rfl rfl fun b => ?_
    have hm : ¬ m < 128 := by omega
    rw [num_ge hm] at h1
    have hal : acc.length + 1 ≤ 10 := by
      have := congrArg List.length h1
      simp at this; omega
    refine xappl [UInt8.ofNat (m % 128 + 128)] rfl rfl rfl (by simp only [List.flatMap_cons, List.flatMap_nil, eB, ← or128]; rfl) (fun y _ => fineB y) (by simp; omega) fun oa' cap' => ?_
    refine ⟨(m / 128, oa', cap', acc ++ [UInt8.ofNat (m % 128 + 128)]), ⟨⟨rfl, rfl, trivial⟩, Ent.refl _, ⟨by simpa using h1, Nat.le_trans (Nat.div_le_self _ _) h2⟩, rfl⟩, Nat.div_lt_self (by omega) (by decide)⟩
  · refine arb (by omega) ?_
    refine xrow (el := 5) (k := 1) rfl rfl rfl rfl fun b => ?_
    have hm : m < 128 := by omega
    rw [num_lt hm] at h1
    have hal : acc.length + 1 ≤ 10 := by
      have := congrArg List.length h1
      simp at this; omega
    refine xappl [UInt8.ofNat m] rfl rfl rfl (by simp only [List.flatMap_cons, eB, ofNat_toInt (show m < 256 by omega)]; rfl) (fun y _ => fineB y) (by simp; omega) fun oa' cap' => ?_
    rw [h1]
    exact xret (M := [vof 5 1 eB oa' cap' (num n)]) ⟨oa', cap', rfl, rfl⟩

theorem wnumberu_spec (n : Nat) (hn : n < 18446744073709551616) : FnSpec Try.prog 70 [.int .u64 n] [] (Ret (RB (num n))) := by
  have hlen := num_len10 (n := n) (by omega)
  refine .intro ttOK (fun _ _ => Try.call70 _ _) Try.func70 rfl rfl rfl rfl ?_
  refine c_ent (Ent.vof0 5 1 eB _) ?_
  refine xloop (ι := Nat × Option Addr × Nat × List UInt8) (fun (m, oa, cap, acc) => [(0, .v (.int .u64 m)), (2, .v (.slice oa acc.length cap))]) (fun (m, oa, cap, acc) => [vof 5 1 eB oa cap acc])
    (fun (m, oa, cap, acc) => acc ++ num m = num n ∧ m ≤ n) (fun (m, _) => m) (n, none, 0, []) ⟨⟨rfl, rfl, trivial⟩, Ent.refl _, ⟨rfl, Nat.le_refl _⟩, rfl⟩ (fun _ => rfl) ?_
  rintro ⟨m, oa, cap, acc⟩ ⟨h1, h2⟩
  refine brd (fun h => ?_) (fun h => ?_)
  · refine ar ?_
    refine xrow (el := 5) (k := 1) rfl rfl rfl rfl fun b => ?_
    have hm : ¬ m < 128 := by omega
    rw [num_ge hm] at h1
    have hal : acc.length + 1 ≤ 10 := by
      have := congrArg List.length h1
      simp at this; omega
    refine xappl [UInt8.ofNat (m % 128 + 128)] rfl rfl rfl (by simp only [List.flatMap_cons, List.flatMap_nil, eB, ← or128]; rfl) (fun y _ => fineB y) (by simp; omega) fun oa' cap' => ?_
    refine ⟨(m / 128, oa', cap', acc ++ [UInt8.ofNat (m % 128 + 128)]), ⟨⟨rfl, rfl, trivial⟩, Ent.refl _, ⟨by simpa using h1, Nat.le_trans (Nat.div_le_self _ _) h2⟩, rfl⟩, Nat.div_lt_self (by omega) (by decide)⟩
  · refine arb (by omega) ?_
    refine xrow (el := 5) (k := 1) rfl rfl rfl rfl fun b => ?_
    have hm : m < 128 := by omega
    rw [num_lt hm] at h1
    have hal : acc.length + 1 ≤ 10 := by
      have := congrArg List.length h1
      simp at this; omega
    refine xappl [UInt8.ofNat m] rfl rfl rfl (by simp only [List.flatMap_cons, eB, ofNat_toInt (show m < 256 by omega)]; rfl) (fun y _ => fineB y) (by simp; omega) fun oa' cap' => ?_
    rw [h1]
    exact xret (M := [vof 5 1 eB oa' cap' (num n)]) ⟨oa', cap', rfl, rfl⟩

theorem wnumberi_spec (n : Nat) (hn : n < 9223372036854775808) : FnSpec Try.prog 71 [.int .i64 n] [] (Ret (RB (num n))) := by
  have hlen := num_len10 (n := n) (by omega)
  refine .intro ttOK (fun _ _ => Try.call71 _ _) Try.func71 rfl rfl rfl rfl ?_
  refine c_ent (Ent.vof0 5 1 eB _) ?_
  refine xloop (ι := Nat × Option Addr × Nat × List UInt8) (fun (m, oa, cap, acc) => [(0, .v (.int .i64 m)), (2, .v (.slice oa acc.length cap))]) (fun (m, oa, cap, acc) => [vof 5 1 eB oa cap acc])
    (fun (m, oa, cap, acc) => acc ++ num m = num n ∧ m ≤ n) (fun (m, _) => m) (n, none, 0, []) ⟨⟨rfl, rfl, trivial⟩, Ent.refl _, ⟨rfl, Nat.le_refl _⟩, rfl⟩ (fun _ => rfl) ?_
  rintro ⟨m, oa, cap, acc⟩ ⟨h1, h2⟩
  refine brd (fun h => ?_) (fun h => ?_)
  · refine ar ?_
    refine xrow (el := 5) (k := 1) rfl rfl rfl rfl fun b => ?_
    have hm : ¬ m < 128 := by omega
    rw [num_ge hm] at h1
    have hal : acc.length + 1 ≤ 10 := by
      have := congrArg List.length h1
      simp at this; omega
    refine xappl [UInt8.ofNat (m % 128 + 128)] rfl rfl rfl (by simp only [List.flatMap_cons, List.flatMap_nil, eB, ← or128]; rfl) (fun y _ => fineB y) (by simp; omega) fun oa' cap' => ?_
    refine ⟨(m / 128, oa', cap', acc ++ [UInt8.ofNat (m % 128 + 128)]), ⟨⟨rfl, rfl, trivial⟩, Ent.refl _, ⟨by simpa using h1, Nat.le_trans (Nat.div_le_self _ _) h2⟩, rfl⟩, Nat.div_lt_self (by omega) (by decide)⟩
  · refine arb (by omega) ?_
    refine xrow (el := 5) (k := 1) rfl rfl rfl rfl fun b => ?_
    have hm : m < 128 := by omega
    rw [num_lt hm] at h1
    have hal : acc.length + 1 ≤ 10 := by
      have := congrArg List.length h1
      simp at this; omega
    refine xappl [UInt8.ofNat m] rfl rfl rfl (by simp only [List.flatMap_cons, eB, ofNat_toInt (show m < 256 by omega)]; rfl) (fun y _ => fineB y) (by simp; omega) fun oa' cap' => ?_
    rw [h1]
    exact xret (M := [vof 5 1 eB oa' cap' (num n)]) ⟨oa', cap', rfl, rfl⟩


/-- Grow of nil: room. -/
theorem grow_spec (n : Nat) (hn : n ≤ 2147483648) : FnSpec Try.prog 109 [.slice none 0 0, .int .i64 n] [] (Ret fun v L => ∃ oa cap, v = .slice oa 0 cap ∧ L = [vof 5 1 eB oa cap []]) := by
  refine .intro ttOK (fun _ _ => Try.call109 _ _) Try.func109 rfl rfl rfl rfl ?_
  refine brn (by omega) ?_
  refine xcap rfl rfl ?_
  refine ari (by decide) ?_
  refine ari (by omega) ?_
  refine brd (fun h => ?_) (fun h => ?_)
  · refine xcap rfl rfl ?_
    refine xslc_nil rfl rfl rfl rfl ?_
    refine xappz0 (el := 5) (k := 1) eB 0 rfl rfl rfl rfl rfl rfl (n := n) (by omega) (by omega) hn fun oa cap => ?_
    refine xtrunc rfl (h := 0) (.is rfl) rfl (Nat.zero_le _) [] rfl ?_
    exact xret (M := [vof 5 1 eB oa cap []]) ⟨oa, cap, rfl, rfl⟩
  · exact r_ent (Ent.vof0 5 1 eB _) (xret (M := [vof 5 1 eB none 0 []]) ⟨none, 0, rfl, rfl⟩)

def catS (ps : List BS) : List UInt8 := ps.flatMap (·.xs)
theorem catS_snoc (ps : List BS) (p : BS) : catS (ps ++ [p]) = catS ps ++ p.xs := by simp [catS]
theorem catS_take_le (ps : List BS) (i : Nat) : (catS (ps.take i)).length ≤ (catS ps).length := by
  conv => rhs; rw [← List.take_append_drop i ps]
  unfold catS
  rw [List.flatMap_append, List.length_append]
  omega
theorem take_succ_get {α : Type} {xs : List α} {i : Nat} {x : α} (h : xs[i]? = some x) : xs.take (i + 1) = xs.take i ++ [x] := by
  rw [List.take_add_one, h]; rfl

theorem concat_spec (ol : Option Addr) (cl : Nat) (ps : List BS) (hl : (catS ps).length ≤ 2147483648) (hm : ps.length ≤ 2147483648) :
    FnSpec Try.prog 46 [.slice ol ps.length cl] [sof 1 eS ol cl ps, allS ps] (Ret (RB (catS ps))) := by
  refine .intro ttOK (fun _ _ => Try.call46 _ _) Try.func46 rfl rfl rfl rfl ?_
  refine xloop (ι := Nat) (fun i => [(0, .v (.slice ol ps.length cl)), (3, .v (.int .i64 (catS (ps.take i)).length)), (9, .v (.slice ol ps.length cl)), (10, .v (.int .i64 ps.length)), (11, .v (.int .i64 i))]) (fun _ => [sof 1 eS ol cl ps, allS ps])
    (fun i => i ≤ ps.length) (fun i => ps.length - i) 0 ⟨⟨rfl, rfl, rfl, rfl, rfl, trivial⟩, Ent.refl _, Nat.zero_le _, rfl⟩ (fun _ => rfl) ?_
  intro i hi
  refine brd (fun h => ?_) (fun h => ?_)
  · have hlt : i < ps.length := by omega
    have hp : ps[i]? = some ps[i] := List.getElem?_eq_getElem hlt
    have hts := take_succ_get hp
    have hle := catS_take_le ps (i + 1)
    rw [hts, catS_snoc, List.length_append] at hle
    refine xidx rfl (Nat.le_refl _) (by omega) ?_
    refine xlde (x := ps[i]) rfl (by simp) rfl ?_
    refine ari (by omega) ?_
    refine brn (by omega) ?_
    refine ari (by omega) ?_
    refine ⟨i + 1, ⟨⟨rfl, ?_, rfl, rfl, rfl, trivial⟩, Ent.refl _, by omega, rfl⟩, by omega⟩
    rw [hts, catS_snoc, List.length_append]
    rfl
  · obtain rfl : i = ps.length := by omega
    rw [List.take_length]
    refine xcallr (grow_spec _ hl) ?_
    rintro _ _ ⟨oa, cap, rfl, rfl⟩
    refine xloop (ι := Nat × Option Addr × Nat × List UInt8) (fun (i, oa, cap, acc) => [(6, .v (.slice oa acc.length cap)), (25, .v (.slice ol ps.length cl)), (26, .v (.int .i64 ps.length)), (27, .v (.int .i64 i))])
      (fun (_, oa, cap, acc) => [vof 5 1 eB oa cap acc, sof 1 eS ol cl ps, allS ps])
      (fun (i, _, _, acc) => i ≤ ps.length ∧ acc = catS (ps.take i)) (fun (i, _) => ps.length - i) (0, oa, cap, []) ⟨⟨rfl, rfl, rfl, rfl, trivial⟩, Ent.refl _, ⟨Nat.zero_le _, rfl⟩, rfl⟩ (fun _ => rfl) ?_
    rintro ⟨i, oa, cap, acc⟩ ⟨hi, hacc⟩
    refine brd (fun h => ?_) (fun h => ?_)
    · have hlt : i < ps.length := by omega
      have hp : ps[i]? = some ps[i] := List.getElem?_eq_getElem hlt
      have hts := take_succ_get hp
      have hle := catS_take_le ps (i + 1)
      refine xidx rfl (Nat.le_refl _) (by omega) ?_
      refine xlde (x := ps[i]) rfl (by simp) rfl ?_
      refine xgetS ps hp ?_
      refine xappq (catS (ps.take (i + 1))) (by rw [hts, catS_snoc, hacc]) rfl rfl rfl (by omega) fun oa' cap' => ?_
      refine ari (by omega) ?_
      exact ⟨(i + 1, oa', cap', _), ⟨⟨rfl, rfl, rfl, rfl, trivial⟩, Takes.ent, ⟨by omega, rfl⟩, rfl⟩, by show ps.length - (i + 1) < ps.length - i; omega⟩
    · obtain rfl : i = ps.length := by omega
      rw [List.take_length] at hacc
      subst hacc
      exact xret (M := [vof 5 1 eB oa cap (catS ps)]) ⟨oa, cap, rfl, rfl⟩

theorem concat_specq (ol : Option Addr) (cl : Nat) (ps : List BS) (zs : List UInt8) (hz : catS ps = zs) (hl : zs.length ≤ 2147483648) (hm : ps.length ≤ 2147483648) :
    FnSpec Try.prog 46 [.slice ol ps.length cl] [sof 1 eS ol cl ps, allS ps] (Ret (RB zs)) := by
  subst hz; exact concat_spec ol cl ps hl hm

end Go.X
