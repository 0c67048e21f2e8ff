/- Further laws: slices of byte slices, truncation, append of make. A library; no statement of the seat is proved here. -/
import Derived.Test.YtbgjlghhcclooaaXMore
namespace Go.X
open Go

theorem le_maxLen {n : Nat} (h : n ≤ 2147483648) : n ≤ maxLen := by unfold maxLen; omega

/-- A slice of bytes: where it lies, how much room it has, its bytes. -/
structure BS where
  oa : Option Addr
  cap : Nat
  xs : List UInt8

def BS.val (p : BS) : Value := .slice p.oa p.xs.length p.cap
def eS (p : BS) : List Value := [.slice p.oa p.xs.length p.cap]
theorem fineS (p : BS) : fine 1 (eS p) := ⟨rfl, rfl⟩

/-- All of these are shared. -/
def allS (ps : List BS) : Assn :=
  ⟨fun F h => h = Hp.emp ∧ ∀ p ∈ ps, sofP 1 eB p.oa p.cap p.xs F Hp.emp, fun l h => ⟨h.1, fun p m => (sof 1 eB p.oa p.cap p.xs).mono l (h.2 p m)⟩⟩
instance {ps : List BS} : Pers (allS ps) := ⟨fun _ _ h => h.1⟩

theorem Ent.allS_nil (L : List Assn) : Ent L (allS [] :: L) := by
  intro w R o
  exact Ent.head (A := X.fact True) (B := allS []) (fun F h g => ⟨g.1, fun p m => by cases m⟩) L w R (Ent.fact trivial L w R o)

theorem Ent.both {A B C : Assn} (_ : ∀ F h, A.holds F h → h = Hp.emp) (hb : ∀ F h k, A.holds F h → B.holds F k → C.holds F k) (L : List Assn) : Ent (A :: B :: L) (C :: L) := by
  intro w R o
  obtain ⟨F, hs, f, p, q, s, e⟩ := o
  cases f with
  | cons a f =>
    cases f with
    | cons b f =>
      exact ⟨F, _, .cons (hb _ _ _ a b) f, (List.pairwise_cons.1 p).2, fun x m => q x (.tail _ m), s, e⟩

theorem Ent.allS_cons {p : BS} {ps : List BS} (L : List Assn) : Ent (sof 1 eB p.oa p.cap p.xs :: allS ps :: L) (allS (p :: ps) :: L) :=
  Ent.both (A := sof 1 eB p.oa p.cap p.xs) (B := allS ps) (C := allS (p :: ps)) (fun _ _ h => Pers.out _ _ h) (fun F h k a b => ⟨b.1, fun q m => by
    cases m with
    | head => have ha : sofP 1 eB p.oa p.cap p.xs F h := a; have := ha.1; subst this; exact ha
    | tail _ m => exact b.2 q m⟩) L
theorem Ent.allS_append {ps qs : List BS} (L : List Assn) : Ent (allS ps :: allS qs :: L) (allS (ps ++ qs) :: L) :=
  Ent.both (A := allS ps) (B := allS qs) (C := allS (ps ++ qs)) (fun _ _ h => Pers.out _ _ h) (fun F h k a b => ⟨b.1, fun q m => by
    rcases List.mem_append.1 m with m | m
    · exact a.2 q m
    · exact b.2 q m⟩) L
theorem Ent.allS_get {ps : List BS} {i : Nat} {p : BS} (hp : ps[i]? = some p) (L : List Assn) : Ent (allS ps :: L) (sof 1 eB p.oa p.cap p.xs :: allS ps :: L) :=
  (Ent.dup (fun _ _ h => Pers.out _ _ h) L).trans (Ent.head (A := allS ps) (B := sof 1 eB p.oa p.cap p.xs) (fun F h g => by
    have := g.1; subst this; exact g.2 p (List.mem_of_getElem? hp)) _)

theorem xgetS {P : Program} {x : Eff} {L L' : List Assn} {K : Ending → List Assn → Prop} (ps : List BS) {i : Nat} {p : BS} (hp : ps[i]? = some p) [t : Take (allS ps) L L'] (q : VC P x (sof 1 eB p.oa p.cap p.xs :: allS ps :: L') K) : VC P x L K :=
  x_ent (t.out.trans (Ent.allS_get hp L')) q

/-- A slice that is owned is cut off at a length; it stays owned. -/
theorem xtrunc {P : Program} {T : Tab} [c : TabC P T] {t : TypeId} {α : Type} {oa : Option Addr} {n cp k cap : Nat} {e : TypeId} {enc : α → List Value} {xs : List α} {hi : Option Value} {L L' : List Assn} {K : Ending → List Assn → Prop}
    [r : TakeVof oa L α e k enc cap xs L'] (h1 : elemK T t k = true) {h : Nat} (hh : Bnd hi n h) (hcp : cp = cap) (hhn : h ≤ xs.length) (zs : List α) (hz : xs.take h = zs)
    (q : K (.returned (.slice oa h cap)) (vof e k enc oa cap zs :: L')) : VC P (.slc t (.slice oa n cp) none hi none) L K := by
  refine ⟨fun w R o => ?_⟩
  subst hcp
  subst hz
  have o1 := r.out w R o
  obtain ⟨hr, hk, hlc, hcm⟩ := o1.vof
  obtain ⟨e', hd, hsz, hk0⟩ := elemK_spec c.ok h1
  have hb := sliceBounds_run (P := P) (b := true) (lo := none) .no hh (Nat.zero_le h) (Nat.le_trans hhn hlc) w
  have run : (Eff.next (.slc t (.slice oa n cp) none hi none)).run P w = .ok (.value (.slice oa h cp)) w := by
    have : (if cp = 0 then oa else oa.map (·.add 0)) = oa := by
      split
      · rfl
      · cases oa <;> simp [Addr.add]
    simp [Eff.next, Instr.sliceAt, Instr.slice, underlying_run hd, hb, hsz]
    simpa using this
  rw [run]
  refine ⟨_, Ent.head (A := vof e k enc oa cp xs) (B := vof e k enc oa cp (xs.take h)) (fun F g a => ?_) L' w R o1, q⟩
  rcases (show vofP _ _ _ _ _ _ _ from a) with ⟨a1, a2, a3, a4⟩ | ⟨b, arr, a1, a2, a3, a4, a5, a6, a7⟩
  · exact Or.inl ⟨a1, by rw [a2]; simp, a3, a4⟩
  · refine Or.inr ⟨b, arr, a1, a2, a3, by simp; omega, a5, fun x m => a6 x (List.mem_of_mem_take m), fun j v hj => a7 j v ?_⟩
    have := flat_take_drop (enc := enc) a6 0 h (j := j) (v := v) (by simpa using hj)
    simpa using this

/-- nil[:0] -/
theorem xslc_nil {P : Program} {T : Tab} [c : TabC P T] {t : TypeId} {ti te : TyI} {kk : IntKind} {i : Int} {L : List Assn} {K : Ending → List Assn → Prop} (h1 : tk T t = some ti) (h2 : Nat.beq ti.kind 5 = true) (h3 : tk T ti.elem = some te) (hi : i = 0)
    (q : K (.returned (.slice none 0 0)) L) : VC P (.slc t (.slice none 0 0) none (some (.int kk i)) none) L K := by
  refine ⟨fun w R o => ?_⟩
  subst hi
  obtain ⟨d, hd, hkd, he⟩ := (c.ok t ti h1).desc
  obtain ⟨e', rfl⟩ := kind_slice (hkd.trans (Nat.eq_of_beq_eq_true h2))
  simp only at he
  subst he
  have hsz := sizeOf_run (c.ok _ te h3) w
  have hb := sliceBounds_run (P := P) (b := true) (lo := none) (hi := some (.int kk 0)) (n := 0) (c := 0) (l := 0) (h := 0) .no (.is rfl) (Nat.le_refl _) (Nat.le_refl _) w
  have run : (Eff.next (.slc t (.slice none 0 0) none (some (.int kk 0)) none)).run P w = .ok (.value (.slice none 0 0)) w := by
    simp [Eff.next, Instr.sliceAt, Instr.slice, underlying_run hd, hb, hsz]
  rw [run]
  exact ⟨L, o, q⟩

/-- append(nil, make([]E, n)...): a row of noughts. -/
theorem xappz0 {P : Program} {T : Tab} [c : TabC P T] {t t2 ty el : TypeId} {k : Nat} {t2i te : TyI} {cs : List Bool} {α : Type} (enc : α → List Value) (z0 : α) {kk : IntKind} {i : Int} {n : Nat} {L : List Assn} {K : Ending → List Assn → Prop}
    (he : elemB T t el k = true) (hte : tk T el = some te) (ht2 : tk T t2 = some t2i) (hk2 : Nat.beq t2i.kind 1 = true) (hz0 : enc z0 = te.zero) (hok : okCells te.zero = true) (hi : i = (n : Int)) (hn : 0 < n) (hl : n ≤ 2147483648)
    (q : ∀ oa cap, K (.returned (.slice oa n cap)) (vof el k enc oa cap (List.replicate n z0) :: L)) : VC P (.blt .append [t, t2] ty cs [.slice none 0 0, .int kk i]) L K := by
  refine ⟨fun w R o => ?_⟩
  subst hi
  obtain ⟨x, z, hd, hx, hz, hs, hby, hzs, hk0⟩ := elem_parts c.ok he
  obtain ⟨x', hx', -, -, hz'⟩ := (c.ok _ te hte).info
  rw [hx] at hx'
  cases hx'
  rw [hz] at hz'
  simp only [Option.map_some, Option.some.injEq] at hz'
  obtain ⟨d2, hd2, hkd2, -⟩ := (c.ok t2 t2i ht2).desc
  obtain ⟨k2, rfl⟩ := kind_int (hkd2.trans (Nat.eq_of_beq_eq_true hk2))
  have hb : n * x.bytes ≤ 140737488355328 := Nat.le_trans (Nat.mul_le_mul hl hby) (by decide)
  have hcm : grownCap w n 0 el ≤ maxLen := grownCap_le_maxLen w _ _ _ (le_maxLen hl)
  have hcg : n ≤ grownCap w n 0 el := grownCap_ge w _ _ _
  let arr : Array Value := Builtin.zeroCells z.cells n ++ Builtin.zeroCells z.cells (grownCap w n 0 el - n)
  have run : (Builtin.append_ #[t, t2] ty #[.slice none 0 0, .int kk n]).run P w = .ok (.slice (some ⟨w.heap.size, 0, none⟩) n (grownCap w n 0 el)) (w.drew.alloc (.cells arr el (0, 0))) := by
    have w1 : IntKind.i64.wrap (n : Int) = n := wrap64_in (by omega)
    have n1 : ¬ ((n : Int) < 0) := by omega
    have n2 : ¬ (281474976710656 < (n : Int) * x.bytes) := by
      have : ((n * x.bytes : Nat) : Int) ≤ 140737488355328 := Int.ofNat_le.2 hb
      rw [Int.natCast_mul] at this
      omega
    have n4 : ¬ (9223372036854775807 < (n : Int)) := by omega
    have n5 : ¬ (281474976710656 < Builtin.nextslicecap n 0 * x.bytes) := by rw [nextslicecap_zero hn]; omega
    have n6 : n ≠ 0 := by omega
    have n7 : k ≠ 0 := by omega
    have n8 : ¬ n * k = 0 := by intro h0; rcases Nat.mul_eq_zero.1 h0 with h | h; exact n6 h; exact n7 h
    simp [Builtin.append_, underlying_run hd, underlying_run hd2, sizeOf, typeInfo_run hx, asInt, asIntOf, w1, n1, n2, n4, n5, n6, n8, hs, zeroValue, hz, Question.forced, run_firstCells_none, newRow, grownCap, arr]
  rw [blt_next (P := P) (f := Builtin.append_) (args := [.slice none 0 0, .int kk n]) (fun _ _ _ _ => rfl) run]
  refine ⟨_, ?_, q _ _⟩
  have o1 := o.draw.alloc (.cells arr el (0, 0))
  have hasz : arr.size = grownCap w n 0 el * k := by
    simp only [arr, Array.size_append, size_zeroCells, hzs]
    rw [← Nat.add_mul]; congr 1; omega
  have hzl : te.zero.length = k := by rw [← hzs, hz']; simp
  refine Ent.head (A := obj w.heap.size (.cells arr el (0, 0))) (B := vof el k enc (some ⟨w.heap.size, 0, none⟩) (grownCap w n 0 el) (List.replicate n z0)) (fun F h g => Or.inr ⟨_, arr, rfl, g, hasz, by simpa using hcg, hcm, ?_, ?_⟩) L _ R o1
  · intro y m
    obtain rfl := (List.mem_replicate.1 m).2
    exact ⟨by rw [hz0, hzl], by rw [hz0]; exact hok⟩
  · intro j v hj
    have hfl : ∀ y ∈ List.replicate n z0, fine k (enc y) := fun y m => by obtain rfl := (List.mem_replicate.1 m).2; exact ⟨by rw [hz0, hzl], by rw [hz0]; exact hok⟩
    have hlt := (List.getElem?_eq_some_iff.1 hj).1
    rw [flat_length hfl, List.length_replicate] at hlt
    have hq : j / k < n := (Nat.div_lt_iff_lt_mul hk0).2 hlt
    have hm : j % k < k := Nat.mod_lt _ hk0
    have hv0 : (enc z0)[j % k]? = some (te.zero[j % k]'(by rw [hzl]; exact hm)) := by rw [hz0]; exact List.getElem?_eq_getElem _
    have := flat_get hfl (i := j / k) (x := z0) (by simp [hq]) hv0
    rw [Nat.mul_comm, Nat.div_add_mod] at this
    rw [this] at hj
    cases hj
    simp only [arr]
    rw [Array.getElem?_append_left (by rw [size_zeroCells, hzs]; exact hlt)]
    simp only [Builtin.zeroCells, hzs]
    rw [Array.getElem?_map, Array.getElem?_range, if_pos hlt]
    simp only [Option.map_some, hz']
    congr 1
    simp [hzl, hm]

end Go.X
