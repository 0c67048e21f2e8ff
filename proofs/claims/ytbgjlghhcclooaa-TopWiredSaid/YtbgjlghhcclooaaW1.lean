/- package wire: the writer. -/
import Derived.Test.YtbgjlghhcclooaaB1
import Derived.Test.YtbgjlghhcclooaaXDraw
namespace Go.X
open Go Go.Proofs

theorem xallN {P : Program} {x : Eff} {L : List Assn} {K : Ending → List Assn → Prop} (q : VC P x (allS [] :: L) K) : VC P x L K := x_ent (Ent.allS_nil L) q
theorem xallC {P : Program} {x : Eff} {L L' : List Assn} {K : Ending → List Assn → Prop} (oa : Option Addr) (cap : Nat) (xs : List UInt8) (ps : List BS) [s : Take (allS ps) L L'] [t : HasSof oa L' UInt8 1 eB cap xs]
    (q : VC P x (allS (⟨oa, cap, xs⟩ :: ps) :: L') K) : VC P x L K :=
  x_ent (((s.out.trans (Ent.cons _ t.out)).trans (Ent.swap _ _ _)).trans (Ent.allS_cons (p := ⟨oa, cap, xs⟩) L')) q

/-- A slice of byte slices that is written out: a block of their heads; all are shared. -/
theorem xparts {P : Program} {x : Eff} {L L' : List Assn} {K : Ending → List Assn → Prop} (b : Nat) {e : TypeId} {cs : List Value} (ps : List BS) [t : TakePts b L e cs L'] (h : ps.flatMap eS = cs) (hl : ps.length ≤ 2147483648)
    (q : VC P x (sof 1 eS (some ⟨b, 0, none⟩) ps.length ps :: L') K) : VC P x L K :=
  x_ent ((t.out.trans (Ent.own L' h (fun p _ => fineS p) (le_maxLen hl))).trans (Ent.share L')) q

def wr (b : Nat) (oa : Option Addr) (cap : Nat) (xs : List UInt8) : Assn := pts b 155 [.slice oa xs.length cap, .bool true]

/-- The writer has these bytes. -/
def WR (b : Nat) (xs : List UInt8) (L : List Assn) : Prop := ∃ oa cap, L = [pts b 155 [.slice oa xs.length cap, .bool true], sof 1 eB oa cap xs]

theorem wnew_spec : FnSpec Try.prog 9 [] [] (Ret fun v L => ∃ b, v = .pointer (some ⟨b, 0, none⟩) ∧ WR b [] L) := by
  refine .intro ttOK (fun _ _ => Try.call9 _ _) Try.func9 rfl rfl rfl rfl ?_
  refine xbld rfl rfl rfl ?_
  refine xnewq [.slice none 0 0, .bool true] rfl fun b => ?_
  exact r_ent (Ent.sof0 1 eB none 0 (Nat.zero_le _) _) (xret (M := [pts b 155 [.slice none 0 0, .bool true], sof 1 eB none 0 []]) ⟨b, rfl, none, 0, rfl⟩)

theorem lay_bad (b : Nat) (v : Value) (f : Bool) (hf : f = false) (s : Value) : FnSpec Try.prog 68 [.pointer (some ⟨b, 0, none⟩), .bool f, s] [pts b 155 [v, .bool true]]
    (Ret fun r L => r = .int .i64 2 ∧ L = [pts b 155 [v, .bool true]]) := by
  refine .intro ttOK (fun _ _ => Try.call68 _ _) Try.func68 rfl rfl rfl rfl ?_
  refine xld rfl rfl ?_
  refine brf rfl ?_
  refine brt (by rw [hf]; rfl) ?_
  exact xret ⟨rfl, rfl⟩

theorem lay_ok (b : Nat) (f : Bool) (hf : f = true) (oa : Option Addr) (cap : Nat) (xs : List UInt8) (ol : Option Addr) (cl : Nat) (ps : List BS) (ys : List UInt8) (hy : xs ++ catS ps = ys) (hl : ys.length ≤ 1048576) (hm : ps.length ≤ 1000) :
    FnSpec Try.prog 68 [.pointer (some ⟨b, 0, none⟩), .bool f, .slice ol ps.length cl]
      [pts b 155 [.slice oa xs.length cap, .bool true], sof 1 eB oa cap xs, sof 1 eS ol cl ps, allS ps] (Ret fun r L => r = .int .i64 0 ∧ WR b ys L) := by
  have hl2 := hl
  rw [← hy, List.length_append] at hl2
  refine .intro ttOK (fun _ _ => Try.call68 _ _) Try.func68 rfl rfl rfl rfl ?_
  refine xld rfl rfl ?_
  refine brf rfl ?_
  refine brf (by rw [hf]; rfl) ?_
  refine xld rfl rfl ?_
  refine xloop (ι := Nat) (fun i => [(0, .v (.pointer (some ⟨b, 0, none⟩))), (2, .v (.slice ol ps.length cl)), (7, .v (.int .i64 (xs.length + (catS (ps.take i)).length : Nat))), (26, .v (.slice ol ps.length cl)), (27, .v (.int .i64 ps.length)), (28, .v (.int .i64 i))])
    (fun _ => [pts b 155 [.slice oa xs.length cap, .bool true], sof 1 eB oa cap xs, sof 1 eS ol cl ps, allS ps])
    (fun i => i ≤ ps.length) (fun i => ps.length - i) 0 ⟨⟨rfl, rfl, rfl, rfl, rfl, rfl, trivial⟩, Ent.refl _, Nat.zero_le _, rfl⟩ (fun _ => rfl) ?_
  intro i hi
  refine brd (fun h => ?_) (fun h => ?_)
  · have hlt : i < ps.length := by omega
    have hp : ps[i]? = some ps[i] := List.getElem?_eq_getElem hlt
    have hts := take_succ_get hp
    have hle := catS_take_le ps (i + 1)
    rw [hts, catS_snoc, List.length_append] at hle
    refine xidx rfl (Nat.le_refl _) (by omega) ?_
    refine xlde (x := ps[i]) rfl hp rfl ?_
    refine ari (by omega) ?_
    refine ari (by omega) ?_
    refine ⟨i + 1, ⟨⟨rfl, rfl, ?_, rfl, rfl, rfl, trivial⟩, Ent.refl _, by omega, rfl⟩, by omega⟩
    rw [hts, catS_snoc, List.length_append, ← Nat.add_assoc]
    rfl
  · obtain rfl : i = ps.length := by omega
    rw [List.take_length]
    refine brn (by omega) ?_
    refine xld rfl rfl ?_
    refine xrow (el := 24) (k := 1) rfl rfl rfl rfl fun bb => ?_
    refine xown bb 1 eS [⟨oa, cap, xs⟩] rfl (fun p _ => fineS p) (le_maxLen (Nat.le_of_ble_eq_true rfl)) ?_
    refine xappq (⟨oa, cap, xs⟩ :: ps) rfl rfl rfl rfl (by simp; omega) fun oa1 cap1 => ?_
    refine xshare oa1 ?_
    refine xallC oa cap xs ps ?_
    refine xcallr (concat_specq oa1 cap1 (⟨oa, cap, xs⟩ :: ps) ys (by rw [← hy]; simp [catS]) (by omega) (by simp; omega)) ?_
    rintro _ _ ⟨oa2, cap2, rfl, rfl⟩
    refine xshare oa2 ?_
    refine xst rfl rfl rfl ?_
    exact xret (M := [pts b 155 [.slice oa2 ys.length cap2, .bool true], sof 1 eB oa2 cap2 ys]) ⟨rfl, oa2, cap2, rfl⟩

/-- What a writer is asked: its bytes, for its caller. -/
abbrev wpre (b : Nat) (oa : Option Addr) (cap : Nat) (xs : List UInt8) : List Assn := [pts b 155 [.slice oa xs.length cap, .bool true], sof 1 eB oa cap xs]

theorem wNumber_ok (b : Nat) (oa : Option Addr) (cap : Nat) (xs : List UInt8) (n : Nat) (hn : n < 9223372036854775808) (hl : xs.length ≤ 1000000) :
    FnSpec Try.prog 10 [.pointer (some ⟨b, 0, none⟩), .int .i64 n] (wpre b oa cap xs) (Ret fun r L => r = .int .i64 0 ∧ WR b (xs ++ num n) L) := by
  have h10 := num_len10 (n := n) (by omega)
  refine .intro ttOK (fun _ _ => Try.call10 _ _) Try.func10 rfl rfl rfl rfl ?_
  refine xmax ?_
  refine xcallr (by rw [show max (n : Int) 0 = (n : Int) by omega]; exact wnumber64_spec n hn) ?_
  rintro _ _ ⟨o1, c1, rfl, rfl⟩
  refine xrow (el := 24) (k := 1) rfl rfl rfl rfl fun bb => ?_
  refine xshare o1 ?_
  refine xparts bb [⟨o1, c1, num n⟩] rfl (Nat.le_of_ble_eq_true rfl) ?_
  refine xallN ?_
  refine xallC o1 c1 (num n) [] ?_
  refine xcallr (lay_ok b _ (by simp) oa cap xs (some ⟨bb, 0, none⟩) 1 [⟨o1, c1, num n⟩] (xs ++ num n) (by simp [catS]) (by simp; omega) (by simp)) ?_
  rintro _ _ ⟨rfl, o2, c2, rfl⟩
  exact xret (M := wpre b o2 c2 (xs ++ num n)) ⟨rfl, o2, c2, rfl⟩


theorem wNumber_bad (b : Nat) (v : Value) (n : Int) (hn : n < 0) : FnSpec Try.prog 10 [.pointer (some ⟨b, 0, none⟩), .int .i64 n] [pts b 155 [v, .bool true]]
    (Ret fun r L => r = .int .i64 2 ∧ L = [pts b 155 [v, .bool true]]) := by
  refine .intro ttOK (fun _ _ => Try.call10 _ _) Try.func10 rfl rfl rfl rfl ?_
  refine xmax ?_
  refine xcallr (by rw [show max n 0 = ((0 : Nat) : Int) by omega]; exact wnumber64_spec 0 (by decide)) ?_
  rintro _ _ ⟨o1, c1, rfl, rfl⟩
  refine xrow (el := 24) (k := 1) rfl rfl rfl rfl fun bb => ?_
  refine xcallr (lay_bad b v _ (by simp; omega) _) ?_
  rintro _ _ ⟨rfl, rfl⟩
  exact xret ⟨rfl, rfl⟩

/-- A number with a sign, as one without. -/
def zz (n : Int) : Nat := if n < 0 then (-2 * n - 1).toNat else (2 * n).toNat

theorem ixor_zero {a : Int} (h0 : 0 ≤ a) (h1 : a < 18446744073709551616) : ixor .u64 a 0 = a := by
  have hN : (BitVec.ofInt IntKind.u64.bits a ^^^ BitVec.ofInt IntKind.u64.bits 0).toNat = a.toNat := by
    show (BitVec.ofInt 64 a ^^^ BitVec.ofInt 64 0).toNat = _
    have e : (BitVec.ofInt 64 a ^^^ BitVec.ofInt 64 0) = BitVec.ofInt 64 a := by simp
    rw [e, BitVec.toNat_ofInt]
    omega
  unfold ixor
  rw [hN]
  show ((a.toNat : Nat) : Int) % 18446744073709551616 = a
  omega
theorem ixor_ones {a : Int} (h0 : 0 ≤ a) (h1 : a < 18446744073709551616) : ixor .u64 a 18446744073709551615 = 18446744073709551615 - a := by
  have hN : (BitVec.ofInt IntKind.u64.bits a ^^^ BitVec.ofInt IntKind.u64.bits 18446744073709551615).toNat = (18446744073709551615 - a).toNat := by
    show (BitVec.ofInt 64 a ^^^ BitVec.ofInt 64 18446744073709551615).toNat = _
    have e : BitVec.ofInt 64 18446744073709551615 = BitVec.allOnes 64 := by decide
    rw [e, BitVec.xor_allOnes, BitVec.toNat_not, BitVec.toNat_ofInt]
    omega
  unfold ixor
  rw [hN]
  show (((18446744073709551615 - a).toNat : Nat) : Int) % 18446744073709551616 = _
  omega

theorem zig {n : Int} (h0 : -4611686018427387904 ≤ n) (h1 : n < 4611686018427387904) : ixor .u64 (IntKind.u64.wrap (2 * n)) (IntKind.u64.wrap (n / ((2 ^ min 63 64 : Nat) : Int))) = zz n := by
  have e1 : IntKind.u64.wrap (2 * n) = (2 * n) % 18446744073709551616 := rfl
  have e2 : IntKind.u64.wrap (n / ((2 ^ min 63 64 : Nat) : Int)) = (n / 9223372036854775808) % 18446744073709551616 := rfl
  rw [e1, e2]
  unfold zz
  by_cases hn : n < 0
  · have : (n / 9223372036854775808) % 18446744073709551616 = 18446744073709551615 := by omega
    rw [this, ixor_ones (by omega) (by omega), if_pos hn]
    omega
  · have : (n / 9223372036854775808) % 18446744073709551616 = 0 := by omega
    rw [this, ixor_zero (by omega) (by omega), if_neg hn]
    omega
theorem zz_lt {n : Int} (h0 : -4611686018427387904 ≤ n) (h1 : n < 4611686018427387904) : zz n < 9223372036854775808 := by unfold zz; split <;> omega

theorem wSigned_ok (b : Nat) (oa : Option Addr) (cap : Nat) (xs : List UInt8) (n : Int) (h0 : -4611686018427387904 ≤ n) (h1 : n < 4611686018427387904) (hl : xs.length ≤ 1000000) :
    FnSpec Try.prog 11 [.pointer (some ⟨b, 0, none⟩), .int .i64 n] (wpre b oa cap xs) (Ret fun r L => r = .int .i64 0 ∧ WR b (xs ++ num (zz n)) L) := by
  have hz := zz_lt h0 h1
  have h10 := num_len10 (n := zz n) (by omega)
  refine .intro ttOK (fun _ _ => Try.call11 _ _) Try.func11 rfl rfl rfl rfl ?_
  refine bry h0 ?_
  refine arj (m := 2 * n) (by show n * 2 = 2 * n; omega) (by omega) ?_
  refine ar ?_
  refine ar ?_
  refine xcallr (by rw [show IntKind.u64.wrap (n / ((2 ^ min 63 IntKind.i64.bits : Nat) : Int)) = IntKind.u64.wrap (n / ((2 ^ min 63 64 : Nat) : Int)) from rfl, zig h0 h1]; exact wnumberu_spec (zz n) (by omega)) ?_
  rintro _ _ ⟨o1, c1, rfl, rfl⟩
  refine xrow (el := 24) (k := 1) rfl rfl rfl rfl fun bb => ?_
  refine xshare o1 ?_
  refine xparts bb [⟨o1, c1, num (zz n)⟩] rfl (Nat.le_of_ble_eq_true rfl) ?_
  refine xallN ?_
  refine xallC o1 c1 (num (zz n)) [] ?_
  refine xcallr (lay_ok b _ (by simp; omega) oa cap xs (some ⟨bb, 0, none⟩) 1 [⟨o1, c1, num (zz n)⟩] (xs ++ num (zz n)) (by simp [catS]) (by simp; omega) (by simp)) ?_
  rintro _ _ ⟨rfl, o2, c2, rfl⟩
  exact xret (M := wpre b o2 c2 (xs ++ num (zz n))) ⟨rfl, o2, c2, rfl⟩

theorem wBytes_ok (b : Nat) (oa : Option Addr) (cap : Nat) (xs : List UInt8) (ox : Option Addr) (cx : Nat) (ys : List UInt8) (hl : xs.length ≤ 1000000) (hy : ys.length ≤ 10000) :
    FnSpec Try.prog 12 [.pointer (some ⟨b, 0, none⟩), .slice ox ys.length cx] (wpre b oa cap xs ++ [sof 1 eB ox cx ys]) (Ret fun r L => r = .int .i64 0 ∧ WR b (xs ++ (num ys.length ++ ys)) L) := by
  have h10 := num_len10 (n := ys.length) (by omega)
  refine .intro ttOK (fun _ _ => Try.call12 _ _) Try.func12 rfl rfl rfl rfl ?_
  refine xcallr (wnumberi_spec ys.length (by omega)) ?_
  rintro _ _ ⟨o1, c1, rfl, rfl⟩
  refine xrow (el := 24) (k := 1) rfl rfl rfl rfl fun bb => ?_
  refine xshare o1 ?_
  refine xparts bb [⟨o1, c1, num ys.length⟩, ⟨ox, cx, ys⟩] rfl (Nat.le_of_ble_eq_true rfl) ?_
  refine xallN ?_
  refine xallC ox cx ys [] ?_
  refine xallC o1 c1 (num ys.length) [⟨ox, cx, ys⟩] ?_
  refine xcallr (lay_ok b _ rfl oa cap xs (some ⟨bb, 0, none⟩) 2 [⟨o1, c1, num ys.length⟩, ⟨ox, cx, ys⟩] (xs ++ (num ys.length ++ ys)) (by simp [catS]) (by simp; omega) (by simp)) ?_
  rintro _ _ ⟨rfl, o2, c2, rfl⟩
  exact xret (M := wpre b o2 c2 (xs ++ (num ys.length ++ ys))) ⟨rfl, o2, c2, rfl⟩

theorem wText_ok (b : Nat) (oa : Option Addr) (cap : Nat) (xs : List UInt8) (s : ByteArray) (hl : xs.length ≤ 1000000) (hy : s.data.toList.length ≤ 10000) :
    FnSpec Try.prog 14 [.pointer (some ⟨b, 0, none⟩), .string s] (wpre b oa cap xs) (Ret fun r L => r = .int .i64 0 ∧ WR b (xs ++ (num s.data.toList.length ++ s.data.toList)) L) := by
  have hs : s.size ≤ 2147483648 := by have : s.data.toList.length = s.size := by rw [Array.length_toList]; rfl
                                      omega
  refine .intro ttOK (fun _ _ => Try.call14 _ _) Try.func14 rfl rfl rfl rfl ?_
  refine xcnv_sb rfl rfl rfl rfl rfl rfl rfl hs fun ox cx => ?_
  refine xcallr (wBytes_ok b oa cap xs ox cx s.data.toList hl hy) ?_
  rintro _ _ ⟨rfl, o2, c2, rfl⟩
  exact xret (M := wpre b o2 c2 (xs ++ (num s.data.toList.length ++ s.data.toList))) ⟨rfl, o2, c2, rfl⟩

theorem wTruth_ok (b : Nat) (oa : Option Addr) (cap : Nat) (xs : List UInt8) (t : Bool) (hl : xs.length ≤ 1000000) :
    FnSpec Try.prog 15 [.pointer (some ⟨b, 0, none⟩), .bool t] (wpre b oa cap xs) (Ret fun r L => r = .int .i64 0 ∧ WR b (xs ++ [if t then 1 else 0]) L) := by
  refine .intro ttOK (fun _ _ => Try.call15 _ _) Try.func15 rfl rfl rfl rfl ?_
  refine br (fun h => ?_) (fun h => ?_)
  all_goals
    subst h
    refine xrow (el := 5) (k := 1) rfl rfl rfl rfl fun b1 => ?_
    refine xrow (el := 24) (k := 1) rfl rfl rfl rfl fun bb => ?_
  · refine xown b1 1 eB [1] rfl (fun y _ => fineB y) (le_maxLen (Nat.le_of_ble_eq_true rfl)) ?_
    refine xshare (some ⟨b1, 0, none⟩) ?_
    refine xparts bb [⟨some ⟨b1, 0, none⟩, 1, [1]⟩] rfl (Nat.le_of_ble_eq_true rfl) ?_
    refine xallN ?_
    refine xallC (some ⟨b1, 0, none⟩) 1 [1] [] ?_
    refine xcallr (lay_ok b _ rfl oa cap xs (some ⟨bb, 0, none⟩) 1 [⟨some ⟨b1, 0, none⟩, 1, [1]⟩] (xs ++ [1]) (by simp [catS]) (by simp; omega) (by simp)) ?_
    rintro _ _ ⟨rfl, o2, c2, rfl⟩
    exact xret (M := wpre b o2 c2 (xs ++ [1])) ⟨rfl, o2, c2, rfl⟩
  · refine xown b1 1 eB [0] rfl (fun y _ => fineB y) (le_maxLen (Nat.le_of_ble_eq_true rfl)) ?_
    refine xshare (some ⟨b1, 0, none⟩) ?_
    refine xparts bb [⟨some ⟨b1, 0, none⟩, 1, [0]⟩] rfl (Nat.le_of_ble_eq_true rfl) ?_
    refine xallN ?_
    refine xallC (some ⟨b1, 0, none⟩) 1 [0] [] ?_
    refine xcallr (lay_ok b _ rfl oa cap xs (some ⟨bb, 0, none⟩) 1 [⟨some ⟨b1, 0, none⟩, 1, [0]⟩] (xs ++ [0]) (by simp [catS]) (by simp; omega) (by simp)) ?_
    rintro _ _ ⟨rfl, o2, c2, rfl⟩
    exact xret (M := wpre b o2 c2 (xs ++ [0])) ⟨rfl, o2, c2, rfl⟩

theorem wRaw_ok (b : Nat) (oa : Option Addr) (cap : Nat) (xs : List UInt8) (ol : Option Addr) (cl : Nat) (ps : List BS) (ys : List UInt8) (hy : xs ++ catS ps = ys) (hl : ys.length ≤ 1048576) (hm : ps.length ≤ 1000) :
    FnSpec Try.prog 16 [.pointer (some ⟨b, 0, none⟩), .slice ol ps.length cl] (wpre b oa cap xs ++ [sof 1 eS ol cl ps, allS ps]) (Ret fun r L => r = .int .i64 0 ∧ WR b ys L) := by
  refine .intro ttOK (fun _ _ => Try.call16 _ _) Try.func16 rfl rfl rfl rfl ?_
  refine xcallr (lay_ok b _ rfl oa cap xs ol cl ps ys hy hl hm) ?_
  rintro _ _ ⟨rfl, o2, c2, rfl⟩
  exact xret (M := wpre b o2 c2 ys) ⟨rfl, o2, c2, rfl⟩

theorem wAll_ok (b : Nat) (oa : Option Addr) (cap : Nat) (xs : List UInt8) (hl : xs.length ≤ 2147483648) :
    FnSpec Try.prog 19 [.pointer (some ⟨b, 0, none⟩)] (wpre b oa cap xs) (Ret fun r L => ∃ o c, r = .slice o xs.length c ∧ L = [pts b 155 [.slice oa xs.length cap, .bool true], sof 1 eB oa cap xs, vof 5 1 eB o c xs]) := by
  refine .intro ttOK (fun _ _ => Try.call19 _ _) Try.func19 rfl rfl rfl rfl ?_
  refine xld rfl rfl ?_
  refine xcallr (clone_spec oa cap xs hl) ?_
  rintro _ _ ⟨o, c, rfl, rfl⟩
  exact xret (M := [pts b 155 [.slice oa xs.length cap, .bool true], sof 1 eB oa cap xs, vof 5 1 eB o c xs]) ⟨o, c, rfl, rfl⟩

end Go.X
