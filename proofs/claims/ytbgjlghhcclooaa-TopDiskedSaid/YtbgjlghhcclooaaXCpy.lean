/- make, parts of what is owned, copy onto what is owned. A library; no statement of the seat is proved here. -/
import Derived.Test.YtbgjlghhcclooaaXArr
import Derived.Laws.CopyRow
import Derived.Laws.MakeOwn
namespace Go.X
open Go

/-- Where a part of a slice begins. -/
def ofs (oa : Option Addr) (cp l k : Nat) : Option Addr := if cp = l then oa else oa.map fun a : Addr => a.add (l * k)

theorem slv_run {P : Program} {T : Tab} (hT : TabOK P T) {t : TypeId} {oa : Option Addr} {n cp k : Nat} {lo hi : Option Value} (h1 : elemK T t k = true) {l h : Nat} (hl : Bnd lo 0 l) (hh : Bnd hi n h) (hlh : l ≤ h) (hhn : h ≤ cp) (w : World) :
    (Eff.next (.slc t (.slice oa n cp) lo hi none)).run P w = .ok (.value (.slice (ofs oa cp l k) (h - l) (cp - l))) w := by
  obtain ⟨e, hd, hsz, hk0⟩ := elemK_spec hT h1
  have hb := sliceBounds_run (P := P) (b := true) hl hh hlh hhn w
  simp [Eff.next, Instr.sliceAt, Instr.slice, underlying_run hd, hb, hsz, ofs]

theorem hlds {P : Program} {T : Tab} [c : TabC P T] {t n : TypeId} {b off : Nat} {Lh L L' : List Assn} {e : TypeId} {cs : List Value} (vs : List Value) {K : SV → List Assn → Prop} [t' : TakePts b Lh e cs L']
    (h1 : many T t = n + 1) (h2 : (cs.drop off).take (n + 1) = vs) (h3 : vs.length = n + 1) (k : K (.v (.agg vs.toArray)) L) : HVC P (.load t ⟨b, off, none⟩) Lh L K :=
  ⟨_, L, (fun w R o => by
    have hb := (t'.out w R o).of_obj
    refine loadAt_run (load_many c.ok h1 h3 fun j v hj => ?_)
    rw [add_at, cell_of hb]
    subst h2
    rw [List.getElem?_take] at hj
    split at hj
    · rw [List.getElem?_drop] at hj; simpa using hj
    · cases hj), Ent.refl L, k⟩

/-- A part of a slice that is owned: where it lies. -/
theorem xslv {P : Program} {T : Tab} [c : TabC P T] {t : TypeId} {α : Type} {oa : Option Addr} {n cp k cap : Nat} {e : TypeId} {enc : α → List Value} {xs : List α} {lo hi : Option Value} {L L' : List Assn} {K : Ending → List Assn → Prop}
    [r : TakeVof oa L α e k enc cap xs L'] (h1 : elemK T t k = true) {l h : Nat} (hl : Bnd lo 0 l) (hh : Bnd hi n h) (hcp : cp = cap) (hlh : l ≤ h) (hhn : h ≤ xs.length)
    (q : K (.returned (.slice (ofs oa cap l k) (h - l) (cap - l))) L) : VC P (.slc t (.slice oa n cp) lo hi none) L K := by
  refine ⟨fun w R o => ?_⟩
  subst hcp
  obtain ⟨-, -, hlc, -⟩ := (r.out w R o).vof
  rw [slv_run c.ok h1 hl hh hlh (by omega)]
  exact ⟨L, o, q⟩
theorem hslv {P : Program} {T : Tab} [c : TabC P T] {t : TypeId} {α : Type} {oa : Option Addr} {n cp k cap : Nat} {e : TypeId} {enc : α → List Value} {xs : List α} {lo hi : Option Value} {Lh L L' : List Assn} {K : SV → List Assn → Prop}
    [r : TakeVof oa Lh α e k enc cap xs L'] (h1 : elemK T t k = true) {l h : Nat} (hl : Bnd lo 0 l) (hh : Bnd hi n h) (hcp : cp = cap) (hlh : l ≤ h) (hhn : h ≤ xs.length)
    (q : K (.v (.slice (ofs oa cap l k) (h - l) (cap - l))) L) : HVC P (.slc t (.slice oa n cp) lo hi none) Lh L K := by
  subst hcp
  exact ⟨_, L, fun w R o => slv_run c.ok h1 hl hh hlh (by have := (r.out w R o).vof; omega) w, Ent.refl L, q⟩

/-- How much room an owned slice has, as a fact. -/
theorem cfact {P : Program} {T : Tab} {N : Nat} {cd : Code} {env : Env} {X : Exit → Env → List Assn → Prop} {α : Type} (oa : Option Addr) {k cap : Nat} {e : TypeId} {enc : α → List Value} {xs : List α} {L L' : List Assn} [r : TakeVof oa L α e k enc cap xs L']
    (q : CodeVC P T N cd env (fact (xs.length ≤ cap) :: L) X) : CodeVC P T N cd env L X :=
  c_ent (fun w R o => Ent.fact (r.out w R o).vof.2.2.1 L w R o) q
theorem xfact {P : Program} {x : Eff} {K : Ending → List Assn → Prop} {α : Type} (oa : Option Addr) {k cap : Nat} {e : TypeId} {enc : α → List Value} {xs : List α} {L L' : List Assn} [r : TakeVof oa L α e k enc cap xs L']
    (q : VC P x (fact (xs.length ≤ cap) :: L) K) : VC P x L K :=
  x_ent (fun w R o => Ent.fact (r.out w R o).vof.2.2.1 L w R o) q
theorem hslf {P : Program} {T : Tab} [c : TabC P T] {t : TypeId} {oa : Option Addr} {n cp k : Nat} {lo hi : Option Value} {Lh L L' : List Assn} {K : SV → List Assn → Prop} (m : Nat)
    [r : Take (fact (m ≤ cp)) Lh L'] (h1 : elemK T t k = true) {l h : Nat} (hl : Bnd lo 0 l) (hh : Bnd hi n h) (hlh : l ≤ h) (hhn : h ≤ m)
    (q : K (.v (.slice (ofs oa cp l k) (h - l) (cp - l))) L) : HVC P (.slc t (.slice oa n cp) lo hi none) Lh L K :=
  ⟨_, L, fun w R o => slv_run c.ok h1 hl hh hlh (by have := (r.out w R o).of_fact; omega) w, Ent.refl L, q⟩

theorem pre_of {A B : List Value} (h : ∀ (j : Nat) (v : Value), A[j]? = some v → B[j]? = some v) : ∃ tl, B = A ++ tl := by
  refine ⟨B.drop A.length, ?_⟩
  have : B.take A.length = A := by
    apply List.ext_getElem?
    intro j
    rw [List.getElem?_take]
    split
    · rename_i hj
      rw [List.getElem?_eq_getElem hj]
      exact h j _ (List.getElem?_eq_getElem hj)
    · rename_i hj
      rw [List.getElem?_eq_none (by omega)]
  conv => lhs; rw [← List.take_append_drop A.length B, this]

/-- Written over from a place on. -/
def over {α : Type} (xs : List α) (l : Nat) (ys : List α) : List α := xs.take l ++ ys ++ xs.drop (l + ys.length)
theorem over_length {α : Type} (xs : List α) (l : Nat) (ys : List α) (h : l + ys.length ≤ xs.length) : (over xs l ys).length = xs.length := by
  simp [over]; omega
theorem over_nil {α : Type} (xs : List α) (l : Nat) : over xs l [] = xs := by simp [over]

theorem flat1 {α : Type} {enc : α → List Value} {xs : List α} (h : ∀ x ∈ xs, fine 1 (enc x)) : (xs.flatMap enc).length = xs.length := by
  have := flat_length h; omega
theorem flat_take {α : Type} {enc : α → List Value} : ∀ {xs : List α} (l : Nat), (∀ x ∈ xs, fine 1 (enc x)) → (xs.take l).flatMap enc = (xs.flatMap enc).take l
  | [], l, _ => by simp
  | x :: xs, 0, _ => by simp
  | x :: xs, l + 1, h => by
    have hx := (h x (.head _)).1
    rw [List.take_succ_cons, List.flatMap_cons, List.flatMap_cons, flat_take l (fun y m => h y (.tail _ m))]
    match enc x, hx with
    | [v], _ => rfl
theorem flat_drop {α : Type} {enc : α → List Value} : ∀ {xs : List α} (l : Nat), (∀ x ∈ xs, fine 1 (enc x)) → (xs.drop l).flatMap enc = (xs.flatMap enc).drop l
  | [], l, _ => by simp
  | x :: xs, 0, _ => by simp
  | x :: xs, l + 1, h => by
    have hx := (h x (.head _)).1
    rw [List.drop_succ_cons, List.flatMap_cons, flat_drop l (fun y m => h y (.tail _ m))]
    match enc x, hx with
    | [v], _ => rfl
theorem flat_over {α : Type} {enc : α → List Value} {xs ys : List α} (l : Nat) (hx : ∀ x ∈ xs, fine 1 (enc x)) (hy : ∀ x ∈ ys, fine 1 (enc x)) :
    (over xs l ys).flatMap enc = (xs.flatMap enc).take l ++ ys.flatMap enc ++ (xs.flatMap enc).drop (l + (ys.flatMap enc).length) := by
  unfold over
  rw [List.flatMap_append, List.flatMap_append, flat_take l hx, flat_drop _ hx, flat1 hy]

/-- A copy onto a part of a slice that is owned. -/
theorem copy_vof {P : Program} {T : Tab} (hT : TabOK P T) {t t2 ty : TypeId} {α : Type} {oa ox : Option Addr} {e : TypeId} {cap : Nat} {enc : α → List Value} {xs ys : List α} {l dl dc m cx : Nat} {cs : List Bool} {L : List Assn} {w : World} {R : Rest}
    (h1 : elemK T t 1 = true) (o : Own w (vof e 1 enc oa cap xs :: L) R) (hr : Reads w ox (ys.flatMap enc)) (hy : ∀ y ∈ ys, fine 1 (enc y)) (hm : m = ys.length) (hd : l + dl ≤ xs.length) :
    ∃ w', (Eff.next (.blt .copy [t, t2] ty cs [.slice (ofs oa cap l 1) dl dc, .slice ox m cx])).run P w = .ok (.value (.int .i64 (min m dl : Nat))) w' ∧ Own w' (vof e 1 enc oa cap (over xs l (ys.take (min m dl))) :: L) R := by
  subst hm
  obtain ⟨el, hu, hsz, -⟩ := elemK_spec hT h1
  have hs : (P.info? el).map (·.size) = some 1 := by
    have := hsz w
    cases hq : P.info? el with
    | none => simp [sizeOf, typeInfo, hq] at this
    | some i => simp [sizeOf, typeInfo_run hq] at this; simp [this]
  have hnext : ∀ {v w'}, (Builtin.copy_ #[t, t2] ty #[.slice (ofs oa cap l 1) dl dc, .slice ox ys.length cx]).run P w = .ok v w' → (Eff.next (.blt .copy [t, t2] ty cs [.slice (ofs oa cap l 1) dl dc, .slice ox ys.length cx])).run P w = .ok (.value v) w' :=
    fun h => blt_next (P := P) (f := Builtin.copy_) (fun _ _ _ _ => rfl) h
  by_cases h0 : min ys.length dl = 0
  · refine ⟨w, hnext ?_, by rw [h0, List.take_zero, over_nil]; exact o⟩
    obtain ⟨i, hi, hi1⟩ : ∃ i, P.info? el = some i ∧ i.size = 1 := by
      cases hq : P.info? el with
      | none => simp [hq] at hs
      | some i => exact ⟨i, rfl, by simpa [hq] using hs⟩
    have hm0 : Nat.min ys.length dl = 0 := h0
    have hfc : (Builtin.firstCells 1 0 (.slice ox ys.length cx)).run P w = .ok #[] w := by
      cases ox with
      | none => simp [Builtin.firstCells]
      | some a =>
        have := run_loadCells_list (P := P) w a [] (fun j v h => by simp at h)
        simpa [Builtin.firstCells] using this
    cases hofs : ofs oa cap l 1 with
    | none => simp [Builtin.copy_, run_underlying hu, Builtin.lenOf, sizeOf, typeInfo_run hi, hi1, hm0, hfc, goInt]
    | some a => simp [Builtin.copy_, run_underlying hu, Builtin.lenOf, sizeOf, typeInfo_run hi, hi1, hm0, hfc, goInt, storeCells]
  · obtain ⟨ii, hi, o'⟩ := Own.split (ι := Nat × Array Value) (φ := fun p => oa = some ⟨p.1, 0, none⟩ ∧ p.2.size = cap * 1 ∧ xs.length ≤ cap ∧ cap ≤ maxLen ∧ (∀ x ∈ xs, fine 1 (enc x)) ∧ ∀ m u, (xs.flatMap enc)[m]? = some u → p.2[m]? = some u)
      (B := fun p => obj p.1 (.cells p.2 e (0, 0))) (fun F h a => by
        rcases (show vofP _ _ _ _ _ _ _ from a) with ⟨h1, h2, h3, h4⟩ | ⟨b, arr, h1, h2, h3⟩
        · subst h2; simp at hd; omega
        · exact ⟨(b, arr), ⟨h1, h3⟩, h2⟩) o
    obtain ⟨b, arr⟩ := ii
    obtain ⟨rfl, g1, g2, g3, g4, g5⟩ := hi
    simp only at g1 g5 o'
    have hb := o'.of_obj
    have hofs : ofs (some ⟨b, 0, none⟩) cap l 1 = some ⟨b, l, none⟩ := by
      unfold ofs
      rw [if_neg (by omega)]
      simp [add_at]
    have hyl := flat1 hy
    have htk : ∀ y ∈ ys.take (min ys.length dl), fine 1 (enc y) := fun y m => hy y (List.mem_of_mem_take m)
    have hox : ∃ a, ox = some a := by
      have : 0 < (ys.flatMap enc).length := by omega
      obtain ⟨a, ha, -⟩ := hr 0 _ (List.getElem?_eq_getElem this)
      exact ⟨a, ha⟩
    obtain ⟨a, rfl⟩ := hox
    have hcl : ((ys.take (min ys.length dl)).flatMap enc).length = min ys.length dl := by rw [flat1 htk, List.length_take]; omega
    have hrun := run_copy_row (P := P) w t t2 ty el b l dl dc a ys.length cx arr e ((ys.take (min ys.length dl)).flatMap enc) hu hs hb hcl (fun j v hj => by
      rw [flat_take _ hy, List.getElem?_take] at hj
      split at hj
      · obtain ⟨a', ea, hc⟩ := hr j v hj
        cases ea; exact hc
      · cases hj) (by rw [hcl]; omega) (fun v m => okCells_all htk v m)
    rw [← hofs] at hrun
    have hrun2 := hnext hrun
    refine ⟨_, hrun2.trans (congrArg (fun z : Nat => Result.ok (Next.value (goInt z)) _) hcl), ?_⟩
    · have hnew := setRow_heap w b arr (arr.toList.take l ++ (ys.take (min ys.length dl)).flatMap enc ++ arr.toList.drop (l + ((ys.take (min ys.length dl)).flatMap enc).length)).toArray e (0, 0) hb
      have o2 := o'.write (o' := .cells _ e (0, 0)) hnew (fun c hc => setRow_other w b c _ hc) rfl rfl rfl
      refine Ent.head (A := obj b (.cells _ e (0, 0))) (B := vof e 1 enc (some ⟨b, 0, none⟩) cap (over xs l (ys.take (min ys.length dl)))) (fun F h g => Or.inr ⟨b, _, rfl, g, ?_, ?_, g3, ?_, ?_⟩) _ _ _ o2
      · simp only [List.size_toArray, List.length_append, List.length_take, List.length_drop, hcl, Array.length_toList]
        omega
      · rw [over_length _ _ _ (by rw [List.length_take]; omega)]; exact g2
      · intro x m
        unfold over at m
        rcases List.mem_append.1 m with m | m
        · rcases List.mem_append.1 m with m | m
          · exact g4 x (List.mem_of_mem_take m)
          · exact htk x m
        · exact g4 x (List.mem_of_mem_drop m)
      · intro j v hj
        rw [flat_over l g4 htk] at hj
        obtain ⟨tl, htl⟩ := pre_of (A := xs.flatMap enc) (B := arr.toList) (fun j v h => by simpa using g5 j v h)
        have hxl := flat1 g4
        rw [List.getElem?_toArray, htl, List.take_append_of_le_length (by omega), List.drop_append_of_le_length (by omega), ← List.append_assoc]
        rw [List.getElem?_append_left (List.getElem?_eq_some_iff.1 hj).1]
        exact hj

theorem xcopyv {P : Program} {T : Tab} [c : TabC P T] {t t2 ty : TypeId} {α : Type} {oa ox : Option Addr} {e : TypeId} {cap c2 : Nat} {enc : α → List Value} {xs ys : List α} {l dl dc m cx : Nat} {cs : List Bool} {L L' : List Assn} {K : Ending → List Assn → Prop}
    [r : TakeVof oa L α e 1 enc cap xs L'] [rd : RdS ox L α 1 enc c2 ys] (zs : List α) (hz : over xs l (ys.take (min m dl)) = zs) (h1 : elemK T t 1 = true) (hm : m = ys.length) (hd : l + dl ≤ xs.length)
    (q : K (.returned (.int .i64 (min m dl : Nat))) (vof e 1 enc oa cap zs :: L')) : VC P (.blt .copy [t, t2] ty cs [.slice (ofs oa cap l 1) dl dc, .slice ox m cx]) L K := by
  refine ⟨fun w R o => ?_⟩
  obtain ⟨hr, hy, -, -⟩ := rd.out w R o
  obtain ⟨w', h, o'⟩ := copy_vof (t2 := t2) (ty := ty) (dc := dc) (cx := cx) (cs := cs) c.ok h1 (r.out w R o) hr hy hm hd
  rw [h]
  exact ⟨_, hz ▸ o', q⟩

/-- make: noughts. -/
theorem xmks {P : Program} {T : Tab} [c : TabC P T] {t el : TypeId} {k : Nat} {te : TyI} {α : Type} (enc : α → List Value) (z0 : α) {kl kc : IntKind} {i j : Int} (n : Nat) {L : List Assn} {K : Ending → List Assn → Prop}
    (he : elemB T t el k = true) (hte : tk T el = some te) (hz0 : enc z0 = te.zero) (hok : okCells te.zero = true) (hi : i = (n : Int)) (hj : j = (n : Int)) (hl : n ≤ 2147483648)
    (q : ∀ b, K (.returned (.slice (some ⟨b, 0, none⟩) n n)) (vof el k enc (some ⟨b, 0, none⟩) n (List.replicate n z0) :: L)) : VC P (.mksl t (.int kl i) (.int kc j)) L K := by
  refine ⟨fun w R o => ?_⟩
  subst hi; subst hj
  obtain ⟨x, z, hd, hx, hz, hs, hby, hzs, hk0⟩ := elem_parts c.ok he
  obtain ⟨x', hx', -, -, hz'⟩ := (c.ok _ te hte).info
  rw [hx] at hx'
  cases hx'
  rw [hz] at hz'
  simp only [Option.map_some, Option.some.injEq] at hz'
  have hb : (x.bytes : Int) * (n : Int) ≤ 281474976710656 := by
    have : n * x.bytes ≤ 140737488355328 := Nat.le_trans (Nat.mul_le_mul hl hby) (by decide)
    have h2 : ((n * x.bytes : Nat) : Int) ≤ 140737488355328 := Int.ofNat_le.2 this
    rw [Int.natCast_mul, Int.mul_comm] at h2
    omega
  have run := run_make (P := P) w t el x z hd hx hz kl kc n n (by omega) (Int.le_refl _) hb (by omega)
  simp only [Int.toNat_natCast, hs] at run
  have run2 : (Eff.next (.mksl t (.int kl n) (.int kc n))).run P w = .ok (.value (.slice (some ⟨w.heap.size, 0, none⟩) n n)) (w.alloc (.cells (madeCells z.cells (n * k)) el)) := by
    simp only [Eff.next, Sem.run_bind, run, Result.andThen_ok, Sem.run_pure]
  rw [run2]
  refine ⟨_, ?_, q _⟩
  have o1 := o.alloc (.cells (madeCells z.cells (n * k)) el)
  have hzl : te.zero.length = k := by rw [← hzs, hz']; simp
  refine Ent.head (A := obj w.heap.size (.cells (madeCells z.cells (n * k)) el)) (B := vof el k enc (some ⟨w.heap.size, 0, none⟩) n (List.replicate n z0)) (fun F h g => Or.inr ⟨_, _, rfl, g, size_madeCells _ _, by simp, le_maxLen hl, ?_, ?_⟩) L _ R o1
  · intro y m
    obtain rfl := (List.mem_replicate.1 m).2
    exact ⟨by rw [hz0, hzl], by rw [hz0]; exact hok⟩
  · intro j v hj
    have hfl : ∀ y ∈ List.replicate n z0, fine k (enc y) := fun y m => by obtain rfl := (List.mem_replicate.1 m).2; exact ⟨by rw [hz0, hzl], by rw [hz0]; exact hok⟩
    have hlt := (List.getElem?_eq_some_iff.1 hj).1
    rw [flat_length hfl, List.length_replicate] at hlt
    have hq : j / k < n := (Nat.div_lt_iff_lt_mul hk0).2 hlt
    have hm : j % k < k := Nat.mod_lt _ hk0
    have hv0 : (enc z0)[j % k]? = some (te.zero[j % k]'(by rw [hzl]; exact hm)) := by rw [hz0]; exact List.getElem?_eq_getElem _
    have := flat_get hfl (i := j / k) (x := z0) (by simp [hq]) hv0
    rw [Nat.mul_comm, Nat.div_add_mod] at this
    rw [this] at hj
    cases hj
    unfold madeCells
    rw [Array.getElem?_map, Array.getElem?_range, if_pos hlt]
    simp only [Option.map_some, hz']
    congr 1
    simp [hzl, hm]
end Go.X
