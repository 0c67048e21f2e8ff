/- package wire: what is left, and the reader. Printed by gen_w3.py. -/
import Derived.Test.YtbgjlghhcclooaaW2
namespace Go.X
open Go Go.Proofs

def rdRaw (n : Int) (xs : List UInt8) : Except Int (List UInt8 × List UInt8) := if (xs.length : Int) < n then .error 120 else .ok (xs.take n.toNat, xs.drop n.toNat)
def rdLong (g : Int) (xs : List UInt8) : Except Int (List UInt8 × List UInt8) := match rdNum g xs with
  | .error e => .error e
  | .ok (n, r) => rdRaw n r
def rdTruth (xs : List UInt8) : Except Int (Bool × List UInt8) := match xs with
  | [] => .error 120
  | c :: cs => if 1 < c.toNat then .error 121 else .ok (c.toNat == 1, cs)

theorem leftRaw (b : Nat) (oa : Option Addr) (cap : Nat) (xs : List UInt8) (at_ n : Int) (h0 : 0 ≤ n) (hl : xs.length ≤ 1000000) (ha : 0 ≤ at_ ∧ at_ ≤ 1000000) :
    FnSpec Try.prog 132 [.pointer (some ⟨b, 0, none⟩), .int .i64 n] (lft b oa cap xs at_) (Ret (LOut (rdRaw n xs) b xs at_ valB ownB (.slice none 0 0))) := by
  obtain ⟨m, rfl⟩ : ∃ m : Nat, n = m := ⟨n.toNat, by omega⟩
  by_cases h : (xs.length : Int) < m
  · refine (raw_bad b oa cap xs at_ m h).mono ?_
    rintro e L ⟨v, rfl, rfl, rfl⟩
    exact ⟨_, rfl, Or.inr ⟨120, _, _, if_pos h, by decide, rfl, rfl⟩⟩
  · refine (raw_ok b oa cap xs at_ m (by omega) (by omega) (by omega)).mono ?_
    rintro e L ⟨v, rfl, o, c, o', c', rfl, rfl⟩
    refine ⟨_, rfl, Or.inl ⟨xs.take m, xs.drop m, o', c', o, c, if_neg h, by simp, rfl, ?_⟩⟩
    have : at_ + (m : Int) = at_ + xs.length - (xs.drop m).length := by rw [List.length_drop]; omega
    rw [this]
    rfl

theorem rdRaw_cut {n : Int} {xs x r : List UInt8} (h : rdRaw n xs = .ok (x, r)) : r.length ≤ xs.length := by
  unfold rdRaw at h
  split at h <;> cases h
  simp
theorem rdNum_bad {g : Int} {xs : List UInt8} {e : Int} (h : rdNum g xs = .error e) : e ≠ 0 := by
  have key : ∀ (xs : List UInt8) (i n : Nat) (e : Int), rdN i n xs = .error e → e ≠ 0 := by
    intro xs
    induction xs with
    | nil => intro i n e h; cases h; decide
    | cons c cs ih =>
      intro i n e h
      unfold rdN at h
      split at h
      · cases h; decide
      · split at h
        · cases h
        · exact ih _ _ _ h
  unfold rdNum at h
  split at h
  · rename_i e' h'; cases h; exact key _ _ _ _ h'
  · split at h <;> cases h
    decide

theorem leftLong (b : Nat) (oa : Option Addr) (cap : Nat) (xs : List UInt8) (at_ g : Int) (hl : xs.length ≤ 1000000) (ha : 0 ≤ at_ ∧ at_ ≤ 1000000 - xs.length) :
    FnSpec Try.prog 129 [.pointer (some ⟨b, 0, none⟩), .int .i64 g] (lft b oa cap xs at_) (Ret (LOut (rdLong g xs) b xs at_ valB ownB (.slice none 0 0))) := by
  refine .intro ttOK (fun _ _ => Try.call129 _ _) Try.func129 rfl rfl rfl rfl ?_
  refine xcallr (leftNumber b oa cap xs at_ g hl (by omega)) ?_
  rintro _ _ (⟨n, r, o, c, o', c', hr, hc, rfl, rfl⟩ | ⟨e, cs, N, hr, he, rfl, rfl⟩)
  · refine brun rfl ?_
    refine xcallr (leftRaw b o c r (at_ + xs.length - r.length) n (by omega) (by omega) (by omega)) ?_
    rintro _ _ (⟨y, r2, o2, c2, o3, c3, hr2, hc2, rfl, rfl⟩ | ⟨e, cs, N, hr2, he, rfl, rfl⟩)
    · rw [show at_ + xs.length - r.length + r.length - r2.length = at_ + xs.length - r2.length by omega]
      exact xret (M := lft b o2 c2 r2 (at_ + xs.length - r2.length) ++ [vof 5 1 eB o3 c3 y]) (Or.inl ⟨y, r2, o2, c2, o3, c3, by unfold rdLong; rw [hr]; exact hr2, by omega, rfl, rfl⟩)
    · exact xret (M := pts b 160 cs :: N) (Or.inr ⟨e, cs, N, by unfold rdLong; rw [hr]; exact hr2, he, rfl, rfl⟩)
  · refine bruy he ?_
    exact xret (M := pts b 160 cs :: N) (Or.inr ⟨e, cs, N, by unfold rdLong; rw [hr], he, rfl, rfl⟩)

theorem leftTruth (b : Nat) (oa : Option Addr) (cap : Nat) (xs : List UInt8) (at_ : Int) (hl : xs.length ≤ 1000000) (ha : 0 ≤ at_ ∧ at_ ≤ 1000000) :
    FnSpec Try.prog 131 [.pointer (some ⟨b, 0, none⟩), .int .u8 1] (lft b oa cap xs at_) (Ret (LOut (rdTruth xs) b xs at_ valT ownT (.bool false))) := by
  refine .intro ttOK (fun _ _ => Try.call131 _ _) Try.func131 rfl rfl rfl rfl ?_
  cases xs with
  | nil =>
    refine xcallr (raw_bad b oa cap [] at_ 1 (by decide)) ?_
    rintro _ _ ⟨rfl, rfl⟩
    refine bruy (by decide) ?_
    exact xret (M := lft b oa cap [] at_) (Or.inr ⟨120, _, _, rfl, by decide, rfl, rfl⟩)
  | cons x xs =>
    have hlen : (x :: xs).length = xs.length + 1 := rfl
    refine xcallr (raw1 b oa cap x xs at_ (by omega) (by omega)) ?_
    rintro _ _ ⟨o1, k1, o2, k2, rfl, rfl⟩
    refine brun rfl ?_
    refine xidx rfl (Nat.le_refl _) (by decide) ?_
    refine xlde (x := x) rfl rfl rfl ?_
    refine brd (fun h => ?_) (fun h => ?_)
    · exact xret (M := lft b o2 k2 xs (at_ + 1)) (Or.inr ⟨121, _, _, by simp only [rdTruth]; rw [if_pos (by omega)], by decide, rfl, rfl⟩)
    · refine xidx rfl (Nat.le_refl _) (by decide) ?_
      refine xlde (x := x) rfl rfl rfl ?_
      refine xret (M := lft b o2 k2 xs (at_ + 1)) (Or.inl ⟨x.toNat == 1, xs, o2, k2, none, 0, by simp only [rdTruth]; rw [if_neg (by omega)], by omega, ?_, by rw [show at_ + 1 = at_ + (x :: xs).length - xs.length by omega]⟩)
      have : ((x.toNat : Int) == 1) = (x.toNat == 1) := by rw [Bool.eq_iff_iff]; simp; omega
      show Value.tuple #[.bool ((x.toNat : Int) == 1), .int .i64 0] = _
      rw [this]

/-- A reader. -/
abbrev rdr (b : Nat) (oa : Option Addr) (cap : Nat) (xs : List UInt8) (at_ flaw : Int) : List Assn := [pts b 162 [.slice oa xs.length cap, .int .i64 at_, .int .i64 flaw, .bool true], sof 1 eB oa cap xs]

theorem read_spec (oa : Option Addr) (cap : Nat) (xs : List UInt8) (hl : xs.length ≤ 1000000) :
    FnSpec Try.prog 20 [.slice oa xs.length cap] [sof 1 eB oa cap xs] (Ret fun v L => ∃ b o c, v = .pointer (some ⟨b, 0, none⟩) ∧ L = rdr b o c xs 0 0) := by
  refine .intro ttOK (fun _ _ => Try.call20 _ _) Try.func20 rfl rfl rfl rfl ?_
  refine xcallr (clone_spec oa cap xs (by omega)) ?_
  rintro _ _ ⟨o, c, rfl, rfl⟩
  refine xbld rfl rfl rfl ?_
  refine xbld rfl rfl rfl ?_
  refine xnewq [.slice o xs.length c, .int .i64 0, .int .i64 0, .bool true] rfl fun b => ?_
  refine rshare o ?_
  exact xret (M := rdr b o c xs 0 0) ⟨b, o, c, rfl, rfl⟩

/-- What is called with what is left: it takes something off, or tells an error. -/
def TOut (_ : List UInt8) (bl : Nat) (Φ : List UInt8 → Int → List Assn → Prop) (Ψ : Int → List Assn → Prop) (v : Value) (L : List Assn) : Prop :=
  (∃ r o c a N, v = .int .i64 0 ∧ L = pts bl 160 [.slice o r.length c, .int .i64 a] :: sof 1 eB o c r :: N ∧ Φ r a N) ∨ (∃ e cs N, e ≠ 0 ∧ v = .int .i64 e ∧ L = pts bl 160 cs :: N ∧ Ψ e N)

theorem try_spec (b : Nat) (oa : Option Addr) (cap : Nat) (xs : List UInt8) (at_ : Int) (f : FuncId) (caps : List Value) (M : List Assn) (Φ : List UInt8 → Int → List Assn → Prop) (Ψ : Int → List Assn → Prop)
    (h : ∀ bl, FnSpec Try.prog f (.pointer (some ⟨bl, 0, none⟩) :: caps) (pts bl 160 [.slice oa xs.length cap, .int .i64 at_] :: sof 1 eB oa cap xs :: M) (Ret (TOut xs bl Φ Ψ))) :
    FnSpec Try.prog 133 [.pointer (some ⟨b, 0, none⟩), .bool true, .func (.func f) #[] caps.toArray] (rdr b oa cap xs at_ 0 ++ M)
      (Ret fun v L => (∃ r o c a N, v = .int .i64 0 ∧ L = pts b 162 [.slice o r.length c, .int .i64 a, .int .i64 0, .bool true] :: sof 1 eB o c r :: N ∧ Φ r a N) ∨
        (∃ e N, e ≠ 0 ∧ v = .int .i64 e ∧ L = pts b 162 [.slice oa xs.length cap, .int .i64 at_, .int .i64 e, .bool true] :: sof 1 eB oa cap xs :: N ∧ Ψ e N)) := by
  refine .intro ttOK (fun _ _ => Try.call133 _ _) Try.func133 rfl rfl rfl rfl ?_
  refine xld rfl rfl ?_
  refine brf rfl ?_
  refine xld rfl rfl ?_
  refine brun rfl ?_
  refine brf rfl ?_
  refine xlds (vs := [.slice oa xs.length cap, .int .i64 at_]) rfl rfl rfl ?_
  refine xnewq [.slice none 0 0, .int .i64 0] rfl fun bl => ?_
  refine xstq [.slice oa xs.length cap, .int .i64 at_] rfl rfl rfl rfl ?_
  refine xcallr (h bl) ?_
  rintro _ _ (⟨r, o, c, a, N, rfl, rfl, hΦ⟩ | ⟨e, cs, N, he, rfl, rfl, hΨ⟩)
  · refine xst rfl rfl rfl ?_
    refine xld rfl rfl ?_
    refine brqy rfl ?_
    refine xlds (vs := [.slice o r.length c, .int .i64 a]) rfl rfl rfl ?_
    refine xstq [.slice o r.length c, .int .i64 a] rfl rfl rfl rfl ?_
    refine xld rfl rfl ?_
    exact xret (M := pts b 162 [.slice o r.length c, .int .i64 a, .int .i64 0, .bool true] :: sof 1 eB o c r :: N) (Or.inl ⟨r, o, c, a, N, rfl, rfl, hΦ⟩)
  · refine xst rfl rfl rfl ?_
    refine xld rfl rfl ?_
    refine brqn he ?_
    refine xld rfl rfl ?_
    exact xret (M := pts b 162 [.slice oa xs.length cap, .int .i64 at_, .int .i64 e, .bool true] :: sof 1 eB oa cap xs :: N) (Or.inr ⟨e, N, he, rfl, rfl, hΨ⟩)

theorem try_flaw (b : Nat) (oa : Option Addr) (cap : Nat) (xs : List UInt8) (at_ fl : Int) (hf : fl ≠ 0) (f v : Value) :
    FnSpec Try.prog 133 [.pointer (some ⟨b, 0, none⟩), v, f] (rdr b oa cap xs at_ fl) (Ret fun v L => v = .int .i64 fl ∧ L = rdr b oa cap xs at_ fl) := by
  refine .intro ttOK (fun _ _ => Try.call133 _ _) Try.func133 rfl rfl rfl rfl ?_
  refine xld rfl rfl ?_
  refine brf rfl ?_
  refine xld rfl rfl ?_
  refine bruy hf ?_
  refine xld rfl rfl ?_
  exact xret (M := rdr b oa cap xs at_ fl) ⟨rfl, rfl⟩

/-- How something is read: beside a flaw nothing is. -/
def ROut {α : Type} (res : Except Int (α × List UInt8)) (b : Nat) (oa : Option Addr) (cap : Nat) (xs : List UInt8) (at_ : Int) (val : α → Option Addr → Nat → Value) (own : α → Option Addr → Nat → List Assn) (v0 v : Value) (L : List Assn) : Prop :=
  (∃ x r o c o' c', res = .ok (x, r) ∧ r.length ≤ xs.length ∧ v = .tuple #[val x o' c', .int .i64 0] ∧ L = pts b 162 [.slice o r.length c, .int .i64 (at_ + xs.length - r.length), .int .i64 0, .bool true] :: sof 1 eB o c r :: own x o' c') ∨
  (∃ e, res = .error e ∧ e ≠ 0 ∧ v = .tuple #[v0, .int .i64 e] ∧ L = rdr b oa cap xs at_ e)
def res {α : Type} (fl : Int) (r : Except Int (α × List UInt8)) : Except Int (α × List UInt8) := if fl = 0 then r else .error fl

theorem takeN (fh : FuncId) (ak : IntKind) (an : Int) {re : Except Int (Nat × List UInt8)} (bl : Nat) (b1 b2 b3 : Nat) (oa : Option Addr) (cap : Nat) (xs : List UInt8) (at_ : Int)
    (h : ∀ bl, FnSpec Try.prog fh [.pointer (some ⟨bl, 0, none⟩), .int ak an] (lft bl oa cap xs at_) (Ret (LOut re bl xs at_ valN ownN (.int .i64 0)))) :
    FnSpec Try.prog 134 [.pointer (some ⟨bl, 0, none⟩), .pointer (some ⟨b1, 0, none⟩), .pointer (some ⟨b2, 0, none⟩), .pointer (some ⟨b3, 0, none⟩)]
      [pts bl 160 [.slice oa xs.length cap, .int .i64 at_], sof 1 eB oa cap xs, pts b1 170 [.func (.func fh) #[] #[]], pts b2 2 [.int ak an], pts b3 2 [(.int .i64 0)]]
      (Ret (TOut xs bl (fun r p N => ∃ x o' c', re = .ok (x, r) ∧ r.length ≤ xs.length ∧ p = at_ + xs.length - r.length ∧ N = pts b3 2 [valN x o' c'] :: ownN x o' c')
        (fun e N => re = .error e ∧ N = [pts b3 2 [(.int .i64 0)]]))) := by
  refine .intro ttOK (fun _ _ => Try.call134 _ _) Try.func134 rfl rfl rfl rfl ?_
  refine xld rfl rfl ?_
  refine xld rfl rfl ?_
  refine xcallr (h bl) ?_
  rintro _ _ (⟨x, r, o, c, o', c', hr, hc, rfl, rfl⟩ | ⟨e, cs, N, hr, he, rfl, rfl⟩)
  · refine brqy rfl ?_
    refine xst rfl rfl rfl ?_
    exact xret (M := pts bl 160 [.slice o r.length c, .int .i64 (at_ + xs.length - r.length)] :: sof 1 eB o c r :: pts b3 2 [valN x o' c'] :: ownN x o' c') (Or.inl ⟨r, o, c, _, _, rfl, rfl, x, o', c', hr, hc, rfl, rfl⟩)
  · refine brqn he ?_
    exact xret (M := [pts bl 160 cs, pts b3 2 [(.int .i64 0)]]) (Or.inr ⟨e, cs, _, he, rfl, rfl, hr, rfl⟩)

theorem takenN (fh : FuncId) (ak : IntKind) (an : Int) {re : Except Int (Nat × List UInt8)} (b : Nat) (oa : Option Addr) (cap : Nat) (xs : List UInt8) (at_ fl : Int)
    (h : ∀ bl, FnSpec Try.prog fh [.pointer (some ⟨bl, 0, none⟩), .int ak an] (lft bl oa cap xs at_) (Ret (LOut re bl xs at_ valN ownN (.int .i64 0)))) :
    FnSpec Try.prog 77 [.pointer (some ⟨b, 0, none⟩), .bool true, .func (.func fh) #[] #[], .int ak an] (rdr b oa cap xs at_ fl)
      (Ret (ROut (res fl re) b oa cap xs at_ valN ownN (.int .i64 0))) := by
  refine .intro ttOK (fun _ _ => Try.call77 _ _) Try.func77 rfl rfl rfl rfl ?_
  refine xnewq [.func (.func fh) #[] #[]] rfl fun b1 => ?_
  refine xnewq [.int ak an] rfl fun b2 => ?_
  refine xnewq [(.int .i64 0)] rfl fun b3 => ?_
  by_cases hf : fl = 0
  · subst hf
    refine xcallr (try_spec b oa cap xs at_ _ [_, _, _] _ _ _ (fun bl => takeN fh ak an bl b1 b2 b3 oa cap xs at_ h)) ?_
    rintro _ _ (⟨r, o, c, p, N, rfl, rfl, x, o', c', hr, hc, rfl, rfl⟩ | ⟨e, N, he, rfl, rfl, hr, rfl⟩)
    · refine xld rfl rfl ?_
      refine xst rfl rfl rfl ?_
      refine rdv rfl rfl ?_
      exact xret (M := pts b 162 [.slice o r.length c, .int .i64 (at_ + xs.length - r.length), .int .i64 0, .bool true] :: sof 1 eB o c r :: ownN x o' c') (Or.inl ⟨x, r, o, c, o', c', hr, hc, rfl, rfl⟩)
    · refine xld rfl rfl ?_
      refine xst rfl rfl rfl ?_
      refine rdv rfl rfl ?_
      exact xret (M := rdr b oa cap xs at_ e) (Or.inr ⟨e, hr, he, rfl, rfl⟩)
  · refine xcallr (try_flaw b oa cap xs at_ fl hf _ _) ?_
    rintro _ _ ⟨rfl, rfl⟩
    refine xld rfl rfl ?_
    refine xst rfl rfl rfl ?_
    refine rdv rfl rfl ?_
    exact xret (M := rdr b oa cap xs at_ fl) (Or.inr ⟨fl, if_neg hf, hf, rfl, rfl⟩)

theorem takeB (fh : FuncId) (ak : IntKind) (an : Int) {re : Except Int (List UInt8 × List UInt8)} (bl : Nat) (b1 b2 b3 : Nat) (oa : Option Addr) (cap : Nat) (xs : List UInt8) (at_ : Int)
    (h : ∀ bl, FnSpec Try.prog fh [.pointer (some ⟨bl, 0, none⟩), .int ak an] (lft bl oa cap xs at_) (Ret (LOut re bl xs at_ valB ownB (.slice none 0 0)))) :
    FnSpec Try.prog 182 [.pointer (some ⟨bl, 0, none⟩), .pointer (some ⟨b1, 0, none⟩), .pointer (some ⟨b2, 0, none⟩), .pointer (some ⟨b3, 0, none⟩)]
      [pts bl 160 [.slice oa xs.length cap, .int .i64 at_], sof 1 eB oa cap xs, pts b1 238 [.func (.func fh) #[] #[]], pts b2 3 [.int ak an], pts b3 24 [(.slice none 0 0)]]
      (Ret (TOut xs bl (fun r p N => ∃ x o' c', re = .ok (x, r) ∧ r.length ≤ xs.length ∧ p = at_ + xs.length - r.length ∧ N = pts b3 24 [valB x o' c'] :: ownB x o' c')
        (fun e N => re = .error e ∧ N = [pts b3 24 [(.slice none 0 0)]]))) := by
  refine .intro ttOK (fun _ _ => Try.call182 _ _) Try.func182 rfl rfl rfl rfl ?_
  refine xld rfl rfl ?_
  refine xld rfl rfl ?_
  refine xcallr (h bl) ?_
  rintro _ _ (⟨x, r, o, c, o', c', hr, hc, rfl, rfl⟩ | ⟨e, cs, N, hr, he, rfl, rfl⟩)
  · refine brqy rfl ?_
    refine xst rfl rfl rfl ?_
    exact xret (M := pts bl 160 [.slice o r.length c, .int .i64 (at_ + xs.length - r.length)] :: sof 1 eB o c r :: pts b3 24 [valB x o' c'] :: ownB x o' c') (Or.inl ⟨r, o, c, _, _, rfl, rfl, x, o', c', hr, hc, rfl, rfl⟩)
  · refine brqn he ?_
    exact xret (M := [pts bl 160 cs, pts b3 24 [(.slice none 0 0)]]) (Or.inr ⟨e, cs, _, he, rfl, rfl, hr, rfl⟩)

theorem takenB (fh : FuncId) (ak : IntKind) (an : Int) {re : Except Int (List UInt8 × List UInt8)} (b : Nat) (oa : Option Addr) (cap : Nat) (xs : List UInt8) (at_ fl : Int)
    (h : ∀ bl, FnSpec Try.prog fh [.pointer (some ⟨bl, 0, none⟩), .int ak an] (lft bl oa cap xs at_) (Ret (LOut re bl xs at_ valB ownB (.slice none 0 0)))) :
    FnSpec Try.prog 128 [.pointer (some ⟨b, 0, none⟩), .bool true, .func (.func fh) #[] #[], .int ak an] (rdr b oa cap xs at_ fl)
      (Ret (ROut (res fl re) b oa cap xs at_ valB ownB (.slice none 0 0))) := by
  refine .intro ttOK (fun _ _ => Try.call128 _ _) Try.func128 rfl rfl rfl rfl ?_
  refine xnewq [.func (.func fh) #[] #[]] rfl fun b1 => ?_
  refine xnewq [.int ak an] rfl fun b2 => ?_
  refine xnewq [(.slice none 0 0)] rfl fun b3 => ?_
  by_cases hf : fl = 0
  · subst hf
    refine xcallr (try_spec b oa cap xs at_ _ [_, _, _] _ _ _ (fun bl => takeB fh ak an bl b1 b2 b3 oa cap xs at_ h)) ?_
    rintro _ _ (⟨r, o, c, p, N, rfl, rfl, x, o', c', hr, hc, rfl, rfl⟩ | ⟨e, N, he, rfl, rfl, hr, rfl⟩)
    · refine xld rfl rfl ?_
      refine xst rfl rfl rfl ?_
      refine rdv rfl rfl ?_
      exact xret (M := pts b 162 [.slice o r.length c, .int .i64 (at_ + xs.length - r.length), .int .i64 0, .bool true] :: sof 1 eB o c r :: ownB x o' c') (Or.inl ⟨x, r, o, c, o', c', hr, hc, rfl, rfl⟩)
    · refine xld rfl rfl ?_
      refine xst rfl rfl rfl ?_
      refine rdv rfl rfl ?_
      exact xret (M := rdr b oa cap xs at_ e) (Or.inr ⟨e, hr, he, rfl, rfl⟩)
  · refine xcallr (try_flaw b oa cap xs at_ fl hf _ _) ?_
    rintro _ _ ⟨rfl, rfl⟩
    refine xld rfl rfl ?_
    refine xst rfl rfl rfl ?_
    refine rdv rfl rfl ?_
    exact xret (M := rdr b oa cap xs at_ fl) (Or.inr ⟨fl, if_neg hf, hf, rfl, rfl⟩)

theorem takeT (fh : FuncId) (ak : IntKind) (an : Int) {re : Except Int (Bool × List UInt8)} (bl : Nat) (b1 b2 b3 : Nat) (oa : Option Addr) (cap : Nat) (xs : List UInt8) (at_ : Int)
    (h : ∀ bl, FnSpec Try.prog fh [.pointer (some ⟨bl, 0, none⟩), .int ak an] (lft bl oa cap xs at_) (Ret (LOut re bl xs at_ valT ownT (.bool false)))) :
    FnSpec Try.prog 183 [.pointer (some ⟨bl, 0, none⟩), .pointer (some ⟨b1, 0, none⟩), .pointer (some ⟨b2, 0, none⟩), .pointer (some ⟨b3, 0, none⟩)]
      [pts bl 160 [.slice oa xs.length cap, .int .i64 at_], sof 1 eB oa cap xs, pts b1 240 [.func (.func fh) #[] #[]], pts b2 5 [.int ak an], pts b3 4 [(.bool false)]]
      (Ret (TOut xs bl (fun r p N => ∃ x o' c', re = .ok (x, r) ∧ r.length ≤ xs.length ∧ p = at_ + xs.length - r.length ∧ N = pts b3 4 [valT x o' c'] :: ownT x o' c')
        (fun e N => re = .error e ∧ N = [pts b3 4 [(.bool false)]]))) := by
  refine .intro ttOK (fun _ _ => Try.call183 _ _) Try.func183 rfl rfl rfl rfl ?_
  refine xld rfl rfl ?_
  refine xld rfl rfl ?_
  refine xcallr (h bl) ?_
  rintro _ _ (⟨x, r, o, c, o', c', hr, hc, rfl, rfl⟩ | ⟨e, cs, N, hr, he, rfl, rfl⟩)
  · refine brqy rfl ?_
    refine xst rfl rfl rfl ?_
    exact xret (M := pts bl 160 [.slice o r.length c, .int .i64 (at_ + xs.length - r.length)] :: sof 1 eB o c r :: pts b3 4 [valT x o' c'] :: ownT x o' c') (Or.inl ⟨r, o, c, _, _, rfl, rfl, x, o', c', hr, hc, rfl, rfl⟩)
  · refine brqn he ?_
    exact xret (M := [pts bl 160 cs, pts b3 4 [(.bool false)]]) (Or.inr ⟨e, cs, _, he, rfl, rfl, hr, rfl⟩)

theorem takenT (fh : FuncId) (ak : IntKind) (an : Int) {re : Except Int (Bool × List UInt8)} (b : Nat) (oa : Option Addr) (cap : Nat) (xs : List UInt8) (at_ fl : Int)
    (h : ∀ bl, FnSpec Try.prog fh [.pointer (some ⟨bl, 0, none⟩), .int ak an] (lft bl oa cap xs at_) (Ret (LOut re bl xs at_ valT ownT (.bool false)))) :
    FnSpec Try.prog 130 [.pointer (some ⟨b, 0, none⟩), .bool true, .func (.func fh) #[] #[], .int ak an] (rdr b oa cap xs at_ fl)
      (Ret (ROut (res fl re) b oa cap xs at_ valT ownT (.bool false))) := by
  refine .intro ttOK (fun _ _ => Try.call130 _ _) Try.func130 rfl rfl rfl rfl ?_
  refine xnewq [.func (.func fh) #[] #[]] rfl fun b1 => ?_
  refine xnewq [.int ak an] rfl fun b2 => ?_
  refine xnewq [(.bool false)] rfl fun b3 => ?_
  by_cases hf : fl = 0
  · subst hf
    refine xcallr (try_spec b oa cap xs at_ _ [_, _, _] _ _ _ (fun bl => takeT fh ak an bl b1 b2 b3 oa cap xs at_ h)) ?_
    rintro _ _ (⟨r, o, c, p, N, rfl, rfl, x, o', c', hr, hc, rfl, rfl⟩ | ⟨e, N, he, rfl, rfl, hr, rfl⟩)
    · refine xld rfl rfl ?_
      refine xst rfl rfl rfl ?_
      refine rdv rfl rfl ?_
      exact xret (M := pts b 162 [.slice o r.length c, .int .i64 (at_ + xs.length - r.length), .int .i64 0, .bool true] :: sof 1 eB o c r :: ownT x o' c') (Or.inl ⟨x, r, o, c, o', c', hr, hc, rfl, rfl⟩)
    · refine xld rfl rfl ?_
      refine xst rfl rfl rfl ?_
      refine rdv rfl rfl ?_
      exact xret (M := rdr b oa cap xs at_ e) (Or.inr ⟨e, hr, he, rfl, rfl⟩)
  · refine xcallr (try_flaw b oa cap xs at_ fl hf _ _) ?_
    rintro _ _ ⟨rfl, rfl⟩
    refine xld rfl rfl ?_
    refine xst rfl rfl rfl ?_
    refine rdv rfl rfl ?_
    exact xret (M := rdr b oa cap xs at_ fl) (Or.inr ⟨fl, if_neg hf, hf, rfl, rfl⟩)

theorem rNumber (b : Nat) (oa : Option Addr) (cap : Nat) (xs : List UInt8) (at_ fl g : Int) (hg : 0 ≤ g) (hl : xs.length ≤ 1000000) (ha : 0 ≤ at_ ∧ at_ ≤ 1000000 - xs.length) :
    FnSpec Try.prog 25 [.pointer (some ⟨b, 0, none⟩), .int .i64 g] (rdr b oa cap xs at_ fl) (Ret (ROut (res fl (rdNum g xs)) b oa cap xs at_ valN ownN (.int .i64 0))) := by
  refine .intro ttOK (fun _ _ => Try.call25 _ _) Try.func25 rfl rfl rfl rfl ?_
  refine xcallr (by rw [decide_eq_true (show g ≥ 0 from hg)]; exact takenN 78 _ _ b oa cap xs at_ fl fun bl => leftNumber bl oa cap xs at_ g hl (by omega)) ?_
  rintro _ _ (⟨x, r, o, c, o', c', hr, hc, rfl, rfl⟩ | ⟨e, hr, he, rfl, rfl⟩)
  · exact xret (M := rdr b o c r (at_ + xs.length - r.length) 0) (Or.inl ⟨x, r, o, c, o', c', hr, hc, rfl, rfl⟩)
  · exact xret (M := rdr b oa cap xs at_ e) (Or.inr ⟨e, hr, he, rfl, rfl⟩)

theorem rBytes (b : Nat) (oa : Option Addr) (cap : Nat) (xs : List UInt8) (at_ fl g : Int) (hg : 0 ≤ g) (hl : xs.length ≤ 1000000) (ha : 0 ≤ at_ ∧ at_ ≤ 1000000 - xs.length) :
    FnSpec Try.prog 73 [.pointer (some ⟨b, 0, none⟩), .int .i64 g] (rdr b oa cap xs at_ fl) (Ret (ROut (res fl (rdLong g xs)) b oa cap xs at_ valB ownB (.slice none 0 0))) := by
  refine .intro ttOK (fun _ _ => Try.call73 _ _) Try.func73 rfl rfl rfl rfl ?_
  refine xcallr (by rw [decide_eq_true (show g ≥ 0 from hg)]; exact takenB 129 _ _ b oa cap xs at_ fl fun bl => leftLong bl oa cap xs at_ g hl (by omega)) ?_
  rintro _ _ (⟨x, r, o, c, o', c', hr, hc, rfl, rfl⟩ | ⟨e, hr, he, rfl, rfl⟩)
  · exact xret (M := rdr b o c r (at_ + xs.length - r.length) 0 ++ ownB x o' c') (Or.inl ⟨x, r, o, c, o', c', hr, hc, rfl, rfl⟩)
  · exact xret (M := rdr b oa cap xs at_ e) (Or.inr ⟨e, hr, he, rfl, rfl⟩)

theorem rRaw (b : Nat) (oa : Option Addr) (cap : Nat) (xs : List UInt8) (at_ fl g : Int) (hg : 0 ≤ g) (hl : xs.length ≤ 1000000) (ha : 0 ≤ at_ ∧ at_ ≤ 1000000 - xs.length) :
    FnSpec Try.prog 76 [.pointer (some ⟨b, 0, none⟩), .int .i64 g] (rdr b oa cap xs at_ fl) (Ret (ROut (res fl (rdRaw g xs)) b oa cap xs at_ valB ownB (.slice none 0 0))) := by
  refine .intro ttOK (fun _ _ => Try.call76 _ _) Try.func76 rfl rfl rfl rfl ?_
  refine xcallr (by rw [decide_eq_true (show g ≥ 0 from hg)]; exact takenB 132 _ _ b oa cap xs at_ fl fun bl => leftRaw bl oa cap xs at_ g hg hl (by omega)) ?_
  rintro _ _ (⟨x, r, o, c, o', c', hr, hc, rfl, rfl⟩ | ⟨e, hr, he, rfl, rfl⟩)
  · exact xret (M := rdr b o c r (at_ + xs.length - r.length) 0 ++ ownB x o' c') (Or.inl ⟨x, r, o, c, o', c', hr, hc, rfl, rfl⟩)
  · exact xret (M := rdr b oa cap xs at_ e) (Or.inr ⟨e, hr, he, rfl, rfl⟩)

theorem rTruth (b : Nat) (oa : Option Addr) (cap : Nat) (xs : List UInt8) (at_ fl : Int) (hl : xs.length ≤ 1000000) (ha : 0 ≤ at_ ∧ at_ ≤ 1000000 - xs.length) :
    FnSpec Try.prog 75 [.pointer (some ⟨b, 0, none⟩)] (rdr b oa cap xs at_ fl) (Ret (ROut (res fl (rdTruth xs)) b oa cap xs at_ valT ownT (.bool false))) := by
  refine .intro ttOK (fun _ _ => Try.call75 _ _) Try.func75 rfl rfl rfl rfl ?_
  refine xcallr (takenT 131 _ _ b oa cap xs at_ fl fun bl => leftTruth bl oa cap xs at_ hl (by omega)) ?_
  rintro _ _ (⟨x, r, o, c, o', c', hr, hc, rfl, rfl⟩ | ⟨e, hr, he, rfl, rfl⟩)
  · exact xret (M := rdr b o c r (at_ + xs.length - r.length) 0) (Or.inl ⟨x, r, o, c, o', c', hr, hc, rfl, rfl⟩)
  · exact xret (M := rdr b oa cap xs at_ e) (Or.inr ⟨e, hr, he, rfl, rfl⟩)

theorem rAt (b : Nat) (oa : Option Addr) (cap : Nat) (xs : List UInt8) (at_ fl : Int) :
    FnSpec Try.prog 22 [.pointer (some ⟨b, 0, none⟩)] (rdr b oa cap xs at_ fl) (Ret fun v L => v = .int .i64 at_ ∧ L = rdr b oa cap xs at_ fl) := by
  refine .intro ttOK (fun _ _ => Try.call22 _ _) Try.func22 rfl rfl rfl rfl ?_
  refine xld rfl rfl ?_
  exact xret (M := rdr b oa cap xs at_ fl) ⟨rfl, rfl⟩

theorem rEnd (b : Nat) (oa : Option Addr) (cap : Nat) (xs : List UInt8) (at_ fl : Int) :
    FnSpec Try.prog 23 [.pointer (some ⟨b, 0, none⟩)] (rdr b oa cap xs at_ fl) (Ret fun v L => v = .int .i64 (if fl = 0 then (if xs.length = 0 then 0 else 122) else fl) ∧ L = rdr b oa cap xs at_ fl) := by
  refine .intro ttOK (fun _ _ => Try.call23 _ _) Try.func23 rfl rfl rfl rfl ?_
  refine xld rfl rfl ?_
  refine brf rfl ?_
  refine xld rfl rfl ?_
  refine bru (fun h => ?_) (fun h => ?_)
  · refine xld rfl rfl ?_
    exact xret (M := rdr b oa cap xs at_ fl) ⟨by show Value.int .i64 fl = _; rw [if_neg h], rfl⟩
  · subst h
    refine xld rfl rfl ?_
    refine brd (fun h => ?_) (fun h => ?_)
    · exact xret (M := rdr b oa cap xs at_ 0) ⟨by show Value.int .i64 122 = _; rw [if_pos rfl, if_neg (by omega)], rfl⟩
    · exact xret (M := rdr b oa cap xs at_ 0) ⟨by show Value.int .i64 0 = _; rw [if_pos rfl, if_pos (by omega)], rfl⟩

/-- The number with a sign that a number tells. -/
def unzz (n : Nat) : Int := if n % 2 = 0 then n / 2 else -(n / 2 : Nat) - 1
theorem unzz_eq (n : Nat) (hn : n < 9223372036854775808) : ixor .i64 ((n : Int) / ((2 ^ min 1 IntKind.i64.bits : Nat) : Int)) (IntKind.i64.wrap (-iand .i64 (n : Int) 1)) = unzz n := by
  have e1 : ((2 ^ min 1 IntKind.i64.bits : Nat) : Int) = 2 := rfl
  rw [iand1, e1, wrap64_in (by omega)]
  unfold unzz
  by_cases h : n % 2 = 0
  · rw [show -((n : Int) % 2) = 0 by omega, ixor64_zero (by omega), if_pos h]
  · rw [show -((n : Int) % 2) = -1 by omega, ixor64_ones (by omega), if_neg h]
    omega
def rdSigned (xs : List UInt8) : Except Int (Int × List UInt8) := match rdNum 9223372036854775807 xs with
  | .error e => .error e
  | .ok (n, r) => .ok (unzz n, r)
abbrev valI (n : Int) (_ : Option Addr) (_ : Nat) : Value := .int .i64 n
abbrev ownI (_ : Int) (_ : Option Addr) (_ : Nat) : List Assn := []
theorem rdNum_lt {g : Int} {xs r : List UInt8} {n : Nat} (h : rdNum g xs = .ok (n, r)) : n < 9223372036854775808 := by
  unfold rdNum at h
  split at h
  · cases h
  · rename_i h'
    split at h <;> cases h
    exact rdN_lt (by decide) (by decide) h'

theorem rSigned (b : Nat) (oa : Option Addr) (cap : Nat) (xs : List UInt8) (at_ fl : Int) (hl : xs.length ≤ 1000000) (ha : 0 ≤ at_ ∧ at_ ≤ 1000000 - xs.length) :
    FnSpec Try.prog 72 [.pointer (some ⟨b, 0, none⟩)] (rdr b oa cap xs at_ fl) (Ret (ROut (res fl (rdSigned xs)) b oa cap xs at_ valI ownI (.int .i64 0))) := by
  refine .intro ttOK (fun _ _ => Try.call72 _ _) Try.func72 rfl rfl rfl rfl ?_
  refine xcallr (rNumber b oa cap xs at_ fl 9223372036854775807 (by decide) hl ha) ?_
  rintro _ _ (⟨x, r, o, c, o', c', hr, hc, rfl, rfl⟩ | ⟨e, hr, he, rfl, rfl⟩)
  · have hr' : fl = 0 ∧ rdNum 9223372036854775807 xs = .ok (x, r) := by
      unfold res at hr
      split at hr
      · rename_i h; exact ⟨h, hr⟩
      · cases hr
    have hx := rdNum_lt hr'.2
    refine xneg rfl rfl rfl ?_
    refine xret (M := rdr b o c r (at_ + xs.length - r.length) 0) (Or.inl ⟨unzz x, r, o, c, o', c', ?_, hc, ?_, rfl⟩)
    · unfold res; rw [if_pos hr'.1]; unfold rdSigned; rw [hr'.2]
    · exact congrArg (fun z => Value.tuple #[.int .i64 z, .int .i64 0]) (unzz_eq x hx)
  · refine xneg rfl rfl rfl ?_
    refine xret (M := rdr b oa cap xs at_ e) (Or.inr ⟨e, ?_, he, ?_, rfl⟩)
    · unfold res at hr ⊢
      split at hr
      · rename_i h; rw [if_pos h]; unfold rdSigned; rw [hr]
      · rename_i h; rw [if_neg h]; cases hr; rfl
    · exact congrArg (fun z => Value.tuple #[.int .i64 z, .int .i64 e]) (unzz_eq 0 (by decide))

/-- A text is read. -/
abbrev valS (ys : List UInt8) (_ : Option Addr) (_ : Nat) : Value := .string (strOf ys)
abbrev ownS (_ : List UInt8) (_ : Option Addr) (_ : Nat) : List Assn := []
theorem rText (b : Nat) (oa : Option Addr) (cap : Nat) (xs : List UInt8) (at_ fl g : Int) (hg : 0 ≤ g) (hl : xs.length ≤ 1000000) (ha : 0 ≤ at_ ∧ at_ ≤ 1000000 - xs.length) :
    FnSpec Try.prog 74 [.pointer (some ⟨b, 0, none⟩), .int .i64 g] (rdr b oa cap xs at_ fl) (Ret (ROut (res fl (rdLong g xs)) b oa cap xs at_ valS ownS (.string (strOf [])))) := by
  refine .intro ttOK (fun _ _ => Try.call74 _ _) Try.func74 rfl rfl rfl rfl ?_
  refine xcallr (rBytes b oa cap xs at_ fl g hg hl ha) ?_
  rintro _ _ (⟨x, r, o, c, o', c', hr, hc, rfl, rfl⟩ | ⟨e, hr, he, rfl, rfl⟩)
  · refine xcnv_bs (xs := x) rfl rfl rfl rfl rfl rfl rfl rfl ?_
    exact xret (M := rdr b o c r (at_ + xs.length - r.length) 0) (Or.inl ⟨x, r, o, c, o', c', hr, hc, rfl, rfl⟩)
  · refine x_ent (Ent.sof0 1 eB none 0 (Nat.zero_le _) _) ?_
    refine xcnv_bs (xs := []) rfl rfl rfl rfl rfl rfl rfl rfl ?_
    exact xret (M := rdr b oa cap xs at_ e) (Or.inr ⟨e, hr, he, rfl, rfl⟩)

end Go.X
