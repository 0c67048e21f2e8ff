/- bytes.Repeat, of one byte: the calls. -/
import Derived.Test.YtbgjlghhcclooaaD5
namespace Go.X
open Go Go.Proofs

theorem mul64_spec (m : Nat) (hm : m ≤ 6) : FnSpec Try.prog 137 [.int .u64 1, .int .u64 m] [] (Ret fun v L => v = .tuple #[.int .u64 0, .int .u64 m] ∧ L = []) := by
  refine .intro ttOK (fun _ _ => Try.call137 _ _) Try.func137 rfl rfl rfl rfl ?_
  refine ar ?_
  refine ar ?_
  refine ar ?_
  refine ar ?_
  refine ar ?_
  refine ar ?_
  refine ar ?_
  refine ar ?_
  refine ar ?_
  refine xret (M := []) ⟨?_, rfl⟩
  have : m = 0 ∨ m = 1 ∨ m = 2 ∨ m = 3 ∨ m = 4 ∨ m = 5 ∨ m = 6 := by omega
  rcases this with rfl | rfl | rfl | rfl | rfl | rfl | rfl <;> rfl

theorem mul_spec (m : Nat) (hm : m ≤ 6) : FnSpec Try.prog 144 [.int .u64 1, .int .u64 m] [] (Ret fun v L => v = .tuple #[.int .u64 0, .int .u64 m] ∧ L = []) := by
  refine .intro ttOK (fun _ _ => Try.call144 _ _) Try.func144 rfl rfl rfl rfl ?_
  refine xcallr (mul64_spec m hm) ?_
  rintro _ _ ⟨rfl, rfl⟩
  exact xret (M := []) ⟨rfl, rfl⟩

theorem xsl3 {P : Program} {T : Tab} [c : TabC P T] {t : TypeId} {oa : Option Addr} {k1 k2 : IntKind} {i j : Int} {n m cp k : Nat} {L : List Assn} {K : Ending → List Assn → Prop}
    (h1 : elemK T t k = true) (hi : i = (n : Int)) (hj : j = (n : Int)) (hc : n ≤ cp) (q : K (.returned (.slice oa n n)) L) : VC P (.slc t (.slice oa m cp) none (some (.int k1 i)) (some (.int k2 j))) L K := by
  refine ⟨fun w R o => ?_⟩
  subst hi; subst hj
  obtain ⟨e, hd, hsz, hk0⟩ := elemK_spec c.ok h1
  have hb : (Instr.sliceBounds true m cp none (some (.int k1 (n : Int))) (some (.int k2 (n : Int)))).run P w = .ok (0, n, n) w := by
    simp [Instr.sliceBounds, sliceBound_run hc, sliceBound_run (Nat.le_refl n)]
  have e2 : ∀ a : Addr, a.add 0 = a := fun a => (plus_eq a 0).symm
  have run : (Eff.next (.slc t (.slice oa m cp) none (some (.int k1 (n : Int))) (some (.int k2 (n : Int))))).run P w = .ok (.value (.slice oa n n)) w := by
    simp [Eff.next, Instr.sliceAt, Instr.slice, underlying_run hd, hb, hsz, e2]
  rw [run]
  exact ⟨L, o, q⟩

theorem xcopy0 {P : Program} {T : Tab} [c : TabC P T] {t t2 ty : TypeId} {α : Type} {oa ox : Option Addr} {e : TypeId} {cap c2 : Nat} {enc : α → List Value} {xs ys : List α} {dl dc m cx : Nat} {cs : List Bool} {L L' : List Assn} {K : Ending → List Assn → Prop}
    [r : TakeVof oa L α e 1 enc cap xs L'] [rd : RdS ox L α 1 enc c2 ys] (zs : List α) (hz : over xs 0 (ys.take (min m dl)) = zs) (h1 : elemK T t 1 = true) (hm : m = ys.length) (hd : dl ≤ xs.length)
    (q : K (.returned (.int .i64 (min m dl : Nat))) (vof e 1 enc oa cap zs :: L')) : VC P (.blt .copy [t, t2] ty cs [.slice oa dl dc, .slice ox m cx]) L K := by
  have := xcopyv (c := c) (t := t) (t2 := t2) (ty := ty) (dc := dc) (cx := cx) (cs := cs) (l := 0) (dl := dl) (r := r) (rd := rd) zs hz h1 hm (by omega) q
  rw [ofs_zero] at this
  exact this

theorem ofs_cap (oa : Option Addr) {c n l k : Nat} (h1 : l < n) (h2 : n ≤ c) : ofs oa n l k = ofs oa c l k := by
  unfold ofs
  rw [if_neg (by omega), if_neg (by omega)]

theorem take_over {α : Type} {ys : List α} {x : α} {bp k : Nat} (h : ys.take bp = List.replicate bp x) (hk : k ≤ bp) : (over ys bp (ys.take k)).take (bp + k) = List.replicate (bp + k) x := by
  have h2 : ys.take k = List.replicate k x := by
    have : (ys.take bp).take k = ys.take k := by rw [List.take_take, Nat.min_eq_left hk]
    rw [← this, h, List.take_replicate, Nat.min_eq_left hk]
  unfold over
  rw [h, h2, List.length_replicate, List.replicate_append_replicate, List.take_append_of_le_length (by rw [List.length_replicate]; omega), List.take_of_length_le (by rw [List.length_replicate]; omega)]

theorem Ent.sofcap {α : Type} {k : Nat} {enc : α → List Value} {oa : Option Addr} {cap : Nat} {xs : List α} (cap' : Nat) (h1 : xs.length ≤ cap') (h2 : cap' ≤ maxLen) (L : List Assn) : Ent (sof k enc oa cap xs :: L) (sof k enc oa cap' xs :: L) :=
  Ent.head (A := sof k enc oa cap xs) (B := sof k enc oa cap' xs) (fun F h a => by
    obtain ⟨a0, a1, a2, a3, a4⟩ := (show sofP _ _ _ _ _ _ _ from a)
    exact ⟨a0, a1, h1, h2, a4⟩) L

theorem repeat_spec (ob : Option Addr) (cb m : Nat) (x : UInt8) (hm : m ≤ 6) : FnSpec Try.prog 92 [.slice ob 1 cb, .int .i64 m] [sof 1 eB ob cb [x]]
    (Ret fun v L => ∃ o c, v = .slice o m c ∧ L = [sof 1 eB o c (List.replicate m x)]) := by
  refine .intro ttOK (fun _ _ => Try.call92 _ _) Try.func92 rfl rfl rfl rfl ?_
  refine brq (fun h0 => ?_) (fun h0 => ?_)
  · obtain rfl : m = 0 := by omega
    refine xrow (el := 5) (k := 1) rfl rfl rfl rfl fun b => ?_
    refine r_ent (Ent.own (b := b) (e := 5) (k := 1) (enc := eB) (xs := []) _ rfl (fun _ m => by cases m) (Nat.zero_le _)) ?_
    refine rshare (some ⟨b, 0, none⟩) ?_
    exact xret (M := [sof 1 eB (some ⟨b, 0, none⟩) 0 []]) ⟨_, _, rfl, rfl⟩
  · refine brn (by omega) ?_
    refine aru (by omega) ?_
    refine aru (by omega) ?_
    refine xcallr (mul_spec m hm) ?_
    rintro _ _ ⟨rfl, rfl⟩
    refine brf rfl ?_
    refine brn (by omega) ?_
    refine ari (by omega) ?_
    refine brf rfl ?_
    refine brn (by omega) ?_
    refine xnozero m (by omega) fun b c xs hxl hc => ?_
    refine xsl3 (k := 1) rfl rfl rfl hc ?_
    have hmin : min 1 m = 1 := by omega
    refine xcopy0 (over xs 0 [x]) (by rw [hmin]; rfl) rfl rfl (by omega) ?_
    rw [hmin]
    refine c_ent (Ent.fact (Nat.le_refl m) _) ?_
    refine xloop (ι := Nat × List UInt8) (fun (bp, _) => [(7, .v (.int .i64 m)), (8, .v (.int .i64 m)), (9, .v (.slice (some ⟨b, 0, none⟩) m m)), (10, .v (.int .i64 bp))])
      (fun (_, ys) => [fact (m ≤ m), vof 5 1 eB (some ⟨b, 0, none⟩) c ys]) (fun (bp, ys) => ys.length = m ∧ 1 ≤ bp ∧ bp ≤ m ∧ ys.take bp = List.replicate bp x) (fun (bp, _) => m - bp) (1, over xs 0 [x])
      ⟨⟨rfl, rfl, rfl, rfl, trivial⟩, Takes.ent (M := [fact (m ≤ m), vof 5 1 eB (some ⟨b, 0, none⟩) c (over xs 0 [x])]), ⟨by rw [over_length _ _ _ (by simp; omega), hxl], Nat.le_refl _, by omega, by simp [over]⟩, rfl⟩ (fun _ => rfl) ?_
    rintro ⟨bp, ys⟩ ⟨hy, h1, h2, h3⟩
    refine brd (fun hlt => ?_) (fun hge => ?_)
    · refine xmin ?_
      refine xdraw [fact (m ≤ m)] (.op 0 2 <| .op 1 2 <| .op 2 2 <| .op 4 2 <| .op 5 2 <| .op 3 1 <| .op 6 1 <| .op 7 0 <| .op 8 2 <| .op 9 2 <| .done) [] (by decide +kernel) Takes.ent ?_
      refine hslf (k := 1) m rfl (l := bp) (.is rfl) (h := m) .no (by omega) (Nat.le_refl _) ?_
      refine hslf (k := 1) m rfl (l := 0) .no (h := bp) (.is (by omega)) (by omega) (by omega) ?_
      rw [ofs_zero, Nat.sub_zero, ofs_cap _ (show bp < m by omega) hc]
      refine xcopyo (over ys bp (ys.take (min bp (m - bp)))) rfl rfl (by omega) (by omega) ?_
      refine arj (m := ((bp + min bp (m - bp) : Nat) : Int)) (by omega) (by omega) ?_
      exact ⟨(bp + min bp (m - bp), over ys bp (ys.take (min bp (m - bp)))), ⟨⟨rfl, rfl, rfl, rfl, trivial⟩, Takes.ent (M := [fact (m ≤ m), vof 5 1 eB (some ⟨b, 0, none⟩) c (over ys bp (ys.take (min bp (m - bp))))]),
        ⟨by rw [over_length _ _ _ (by rw [List.length_take]; omega), hy], by omega, by omega, take_over h3 (by omega)⟩, rfl⟩, by show m - (bp + min bp (m - bp)) < m - bp; omega⟩
    · obtain rfl : bp = m := by omega
      have e : ys = List.replicate bp x := by rw [← h3, List.take_of_length_le (by omega)]
      subst e
      refine rshare (some ⟨b, 0, none⟩) ?_
      refine r_ent (Ent.sofcap bp (by rw [List.length_replicate]; omega) (le_maxLen (by omega)) _) ?_
      exact xret (M := [sof 1 eB (some ⟨b, 0, none⟩) bp (List.replicate bp x)]) ⟨_, _, rfl, rfl⟩
end Go.X
