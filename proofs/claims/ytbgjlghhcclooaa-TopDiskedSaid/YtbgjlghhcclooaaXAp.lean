/- append, slicing, copies, literals. A library; no statement of the seat is proved here. -/
import Derived.Test.YtbgjlghhcclooaaXSl
namespace Go.X
open Go

theorem firstCells_run {P : Program} {w : World} {ox : Option Addr} {news : List Value} (h : Reads w ox news) {k m c : Nat} (hl : news.length = m * k) : (Builtin.firstCells k m (.slice ox m c)).run P w = .ok news.toArray w := by
  cases ox with
  | none =>
    have : news = [] := by
      cases news with
      | nil => rfl
      | cons v vs => obtain ⟨a, e, _⟩ := h 0 v rfl; cases e
    subst this
    exact run_firstCells_none w k m m c
  | some a => exact run_firstCells_some w k m a m c news hl fun j v hj => by obtain ⟨a', e, hc⟩ := h j v hj; cases e; exact hc

theorem okCells_all {α : Type} {k : Nat} {enc : α → List Value} {xs : List α} (h : ∀ x ∈ xs, fine k (enc x)) : ∀ v ∈ xs.flatMap enc, v.oneCell' = true := by
  intro v hv
  obtain ⟨x, hx, hv⟩ := List.mem_flatMap.1 hv
  exact okCells_mem (h x hx).2 v hv

theorem reads_draw {w : World} {oa : Option Addr} {cs : List Value} (h : Reads w oa cs) : Reads w.drew oa cs := h

def elemB (T : Tab) (t e k : Nat) : Bool := match tk T t with
  | some ti => match tk T ti.elem with
    | some te => Nat.beq ti.kind 5 && Nat.beq ti.elem e && Nat.beq te.size k && Nat.beq te.zero.length k && Nat.blt 0 k && Nat.ble te.bytes 65536
    | none => false
  | none => false

theorem elem_parts {P : Program} {T : Tab} (hT : TabOK P T) {t e k : Nat} (h : elemB T t e k = true) : ∃ x z, P.underlying t = some (.slice e) ∧ P.info? e = some x ∧ x.zero = some z ∧ x.size = k ∧ x.bytes ≤ 65536 ∧ z.cells.size = k ∧ 0 < k := by
  unfold elemB at h
  split at h
  · rename_i ti h1
    split at h
    · rename_i te h3
      simp only [Bool.and_eq_true] at h
      obtain ⟨⟨⟨⟨⟨g1, g2⟩, g3⟩, g4⟩, g5⟩, g6⟩ := h
      obtain ⟨d, hd, hkd, he⟩ := (hT t ti h1).desc
      obtain ⟨e', rfl⟩ := kind_slice (hkd.trans (Nat.eq_of_beq_eq_true g1))
      simp only at he
      subst he
      have := Nat.eq_of_beq_eq_true g2
      subst this
      obtain ⟨x, hx, hs, hb, hz⟩ := (hT _ te h3).info
      cases hxz : x.zero with
      | none => rw [hxz] at hz; cases hz
      | some z =>
        rw [hxz] at hz
        simp only [Option.map_some, Option.some.injEq] at hz
        exact ⟨x, z, hd, hx, hxz, hs.trans (Nat.eq_of_beq_eq_true g3), by rw [hb]; exact Nat.le_of_ble_eq_true g6, by rw [hz]; simpa using Nat.eq_of_beq_eq_true g4, by simpa using g5⟩
    · cases h
  · cases h

theorem append_vof {P : Program} {T : Tab} (hT : TabOK P T) {t ty : TypeId} {α : Type} {el : TypeId} {k : Nat} (he : elemB T t el k = true) {enc : α → List Value} {oa ox : Option Addr} {cap cx : Nat} {xs ys : List α}
    {w : World} {L : List Assn} {R : Rest} (o : Own w (vof el k enc oa cap xs :: L) R) (hr : Reads w ox (ys.flatMap enc)) (hy : ∀ y ∈ ys, fine k (enc y)) (hm : xs.length + ys.length ≤ 2147483648) :
    ∃ oa' cap' w', (Builtin.append_ #[t, t] ty #[.slice oa xs.length cap, .slice ox ys.length cx]).run P w = .ok (.slice oa' (xs ++ ys).length cap') w' ∧
      Own w' (vof el k enc oa' cap' (xs ++ ys) :: L) R := by
  obtain ⟨x, z, hd, hx, hz, hs, hby, hzs, hk0⟩ := elem_parts hT he
  have hb : (xs.length + ys.length) * x.bytes ≤ 140737488355328 := Nat.le_trans (Nat.mul_le_mul hm hby) (by decide)
  have hlen := o.vof
  obtain ⟨hro, hfx, hlc, hcm⟩ := hlen
  have hfl := flat_length hfx
  have hfy := flat_length hy
  have hall : ∀ v ∈ ys.flatMap enc, v.oneCell' = true := okCells_all hy
  have hfine : ∀ v ∈ xs ++ ys, fine k (enc v) := fun v hv => by rcases List.mem_append.1 hv with h | h; exact hfx v h; exact hy v h
  by_cases hroom : xs.length + ys.length ≤ cap
  · -- room: either nothing is there and nothing comes, or the block is written
    obtain ⟨i, hi, o'⟩ := Own.split (ι := Option (Nat × Array Value)) (φ := fun i => match i with
        | none => oa = none ∧ xs = [] ∧ cap = 0
        | some (b, arr) => oa = some ⟨b, 0, none⟩ ∧ arr.size = cap * k ∧ xs.length ≤ cap ∧ cap ≤ maxLen ∧ (∀ x ∈ xs, fine k (enc x)) ∧ ∀ j v, (xs.flatMap enc)[j]? = some v → arr[j]? = some v)
      (B := fun i => match i with | none => X.fact True | some (b, arr) => obj b (.cells arr el (0, 0))) (fun F h a => by
        rcases (show vofP _ _ _ _ _ _ _ from a) with ⟨h1, h2, h3, h4⟩ | ⟨b, arr, h1, h2, h3⟩
        · exact ⟨none, ⟨h1, h2, h3⟩, h4, trivial⟩
        · exact ⟨some (b, arr), ⟨h1, h3⟩, h2⟩) o
    cases i with
    | none =>
      obtain ⟨rfl, rfl, rfl⟩ := hi
      have hy0 : ys = [] := List.eq_nil_of_length_eq_zero (by simp only [List.length_nil] at hroom; omega)
      subst hy0
      refine ⟨none, 0, w, ?_, Ent.head (A := X.fact True) (B := vof el k enc none 0 ([] ++ [])) (fun F h g => Or.inl ⟨rfl, rfl, rfl, g.1⟩) L w R o'⟩
      have hf := firstCells_run (P := P) hr (k := k) (m := 0) (c := cx) (by simp)
      simp [Builtin.append_, underlying_run hd, sizeOf, typeInfo_run hx, Builtin.lenOf, hs, hf]
    | some p =>
      obtain ⟨b, arr⟩ := p
      obtain ⟨rfl, h1, h2, h3, h4, h5⟩ := hi
      have hbk := o'.of_obj
      have hf := firstCells_run (P := P) hr (k := k) (m := ys.length) (c := cx) hfy
      have hfit : xs.length * k + (ys.flatMap enc).length ≤ arr.size := by
        rw [hfy, h1, ← Nat.add_mul]; exact Nat.mul_le_mul_right k hroom
      have hst := run_storeCells_at P b (xs.length * k) el (ys.flatMap enc) 0 arr w hbk (by simpa using hfit) hall
      simp only [Nat.add_zero] at hst
      let arr' := (arr.toList.take (xs.length * k) ++ ys.flatMap enc ++ arr.toList.drop (xs.length * k + (ys.flatMap enc).length)).toArray
      refine ⟨some ⟨b, 0, none⟩, cap, w.setRow b arr', ?_, ?_⟩
      · simp [Builtin.append_, underlying_run hd, sizeOf, typeInfo_run hx, Builtin.lenOf, hs, hroom, hf, add_at, hst, arr']
      · have hnew := setRow_heap w b arr arr' el (0, 0) hbk
        have o2 := o'.write hnew (fun c hc => setRow_other w b c _ hc) rfl rfl rfl
        refine Ent.head (A := obj b (.cells arr' el (0, 0))) (B := vof el k enc (some ⟨b, 0, none⟩) cap (xs ++ ys)) (fun F h g => Or.inr ⟨b, arr', rfl, g, ?_, by simpa using hroom, hcm, hfine, ?_⟩) L _ R o2
        · simp only [arr', List.size_toArray, List.length_append, List.length_take, List.length_drop, Array.length_toList]
          omega
        · intro j v hj
          rw [List.flatMap_append] at hj
          have hpre : arr.toList.take (xs.length * k) = xs.flatMap enc := by
            apply List.ext_getElem?
            intro q
            rw [List.getElem?_take]
            split
            · rename_i hq
              cases hv : (xs.flatMap enc)[q]? with
              | none => rw [List.getElem?_eq_none_iff, hfl] at hv; omega
              | some v => simpa using h5 q v hv
            · rename_i hq
              symm
              rw [List.getElem?_eq_none_iff, hfl]
              omega
          simp only [arr', hpre]
          simp only [List.getElem?_toArray]
          rw [List.getElem?_append_left (by have := (List.getElem?_eq_some_iff.1 hj).1; simpa using this)]
          exact hj
  · -- a new row
    have hy0 : 0 < ys.length := by omega
    obtain ⟨y, hy1⟩ : ∃ y, ys[0]? = some y := ⟨ys[0], List.getElem?_eq_getElem hy0⟩
    have hyl := (hy y (List.mem_of_getElem? hy1)).1
    have hv0 : (enc y)[0]? = some (enc y)[0] := List.getElem?_eq_getElem (by omega)
    obtain ⟨hox, -⟩ := reads_some hr (flat_get hy hy1 hv0)
    have hnews : ∀ j v, (ys.flatMap enc)[j]? = some v → w.cell? ((oget ox).add j) = some v := fun j v hj => (reads_some hr hj).2
    have h63 : ((xs.length + ys.length : Nat) : Int) ≤ 9223372036854775807 := by omega
    have hgl : xs.length + ys.length ≤ maxLen := by simp [maxLen]; omega
    have hcapm : grownCap w (xs.length + ys.length) cap el ≤ maxLen := grownCap_le_maxLen w _ _ _ hgl
    have hcapg : xs.length + ys.length ≤ grownCap w (xs.length + ys.length) cap el := grownCap_ge w _ _ _
    rw [hox]
    -- what stands in the new row
    let arr' : Array Value := (xs.flatMap enc).toArray ++ (ys.flatMap enc).toArray ++ Builtin.zeroCells z.cells (grownCap w (xs.length + ys.length) cap el - (xs.length + ys.length))
    have hsz : arr'.size = grownCap w (xs.length + ys.length) cap el * k := by
      simp only [arr', Array.size_append, List.size_toArray, hfl, hfy, size_zeroCells, hzs]
      rw [← Nat.add_mul, ← Nat.add_mul]
      congr 1
      omega
    have fin : ∀ w' , w'.heap = (w.drew.alloc (.cells arr' el (0, 0))).heap → w'.os = w.os → w'.tape = w.tape → w'.output = w.output →
        Own w' (vof el k enc (some ⟨w.heap.size, 0, none⟩) (grownCap w (xs.length + ys.length) cap el) (xs ++ ys) :: L) R := by
      intro w' hh h1 h2 h3
      have o2 := (Ent.drop _ L _ _ o).draw.alloc (.cells arr' el (0, 0))
      have o3 : Own w' (obj w.heap.size (.cells arr' el (0, 0)) :: L) R := by
        obtain ⟨F, hs, f, p, q, s, ev⟩ := o2
        have hp : hpOf w' = hpOf (w.drew.alloc (.cells arr' el (0, 0))) := by unfold hpOf; rw [hh]
        exact ⟨F, hs, f, p, fun h m => by rw [hp]; exact q h m, by rw [hp]; exact s, h1.trans ev.1, h2.trans ev.2.1, h3.trans ev.2.2⟩
      refine Ent.head (A := obj w.heap.size (.cells arr' el (0, 0))) (B := vof el k enc (some ⟨w.heap.size, 0, none⟩) (grownCap w (xs.length + ys.length) cap el) (xs ++ ys)) (fun F h g => Or.inr ⟨_, arr', rfl, g, hsz, by simpa using hcapg, hcapm, hfine, ?_⟩) L w' R o3
      intro j v hj
      rw [List.flatMap_append] at hj
      have hlt := (List.getElem?_eq_some_iff.1 hj).1
      rw [List.length_append] at hlt
      simp only [arr', List.append_toArray]
      rw [Array.getElem?_append_left (by simpa using hlt)]
      simpa using hj
    cases oa with
    | none =>
      have hx0 : xs = [] := by
        cases xs with
        | nil => rfl
        | cons q qs =>
          have hq := (hfx q (.head _)).1
          obtain ⟨a, ea, _⟩ := hro 0 (enc q)[0] (by have := flat_get hfx (i := 0) (x := q) rfl (f := 0) (v := (enc q)[0]) (List.getElem?_eq_getElem (by omega)); simpa using this)
          cases ea
      subst hx0
      have hc0 : cap = 0 := by
        obtain ⟨F, hs, f, _⟩ := o
        cases f with
        | cons a f =>
          rcases (show vofP _ _ _ _ _ _ _ from a) with ⟨_, _, h3, _⟩ | ⟨b, arr, h1, _⟩
          · exact h3
          · cases h1
      subst hc0
      refine ⟨some ⟨w.heap.size, 0, none⟩, grownCap w (0 + ys.length) 0 el, _, ?_, fin _ rfl rfl rfl rfl⟩
      have := run_append_nil (P := P) w t ty el x z hd hx hz (oget ox) ys.length cx (ys.flatMap enc) (by rw [hs]; exact hfy) hnews hy0 (by simpa using h63) (by simp only [List.length_nil, Nat.zero_add] at hb; omega)
      simpa [arr'] using this
    | some b =>
      refine ⟨some ⟨w.heap.size, 0, none⟩, grownCap w (xs.length + ys.length) cap el, _, ?_, fin _ rfl rfl rfl rfl⟩
      have := run_append_grow (P := P) w t ty el x z hd hx hz b xs.length cap (xs.flatMap enc) (by rw [hs]; exact hfl) (fun j v hj => by obtain ⟨a, ea, hc⟩ := hro j v hj; cases ea; exact hc)
        (oget ox) ys.length cx (ys.flatMap enc) (by rw [hs]; exact hfy) hnews (by omega) h63 (growslice_fits (by omega) hb)
      rw [List.length_append]
      exact this


theorem blt_next {P : Program} {b : Builtin} {tys : List TypeId} {ty : TypeId} {cs : List Bool} {args : List Value} {f : Array TypeId → TypeId → Array Value → Sem Value}
    (hb : ∀ a c d e, builtin b a c d e = (do pure (.value (← f a c e)))) {w w' : World} {v : Value} (h : (f tys.toArray ty args.toArray).run P w = .ok v w') : (Eff.next (.blt b tys ty cs args)).run P w = .ok (.value v) w' := by
  simp only [Eff.next, hb, Sem.run_bind, h, Result.andThen_ok, Sem.run_pure]

/-- append of a slice to a slice that is owned. -/
theorem xapp {P : Program} {T : Tab} [c : TabC P T] {t ty : TypeId} {cs : List Bool} {α : Type} {el : TypeId} {k : Nat} {enc : α → List Value} {oa ox : Option Addr} {cap cx c2 n m : Nat} {xs ys : List α} {L L1 : List Assn}
    {K : Ending → List Assn → Prop} [tv : TakeVof oa L α el k enc cap xs L1] [rd : RdS ox L α k enc c2 ys] (he : elemB T t el k = true) (hn : n = xs.length) (hm : m = ys.length) (hl : xs.length + ys.length ≤ 2147483648)
    (q : ∀ oa' cap', K (.returned (.slice oa' (xs ++ ys).length cap')) (vof el k enc oa' cap' (xs ++ ys) :: L1)) : VC P (.blt .append [t, t] ty cs [.slice oa n cap, .slice ox m cx]) L K := by
  refine ⟨fun w R o => ?_⟩
  subst hn; subst hm
  obtain ⟨hr, hy, -, -⟩ := rd.out w R o
  obtain ⟨oa', cap', w', h1, h2⟩ := append_vof (ty := ty) c.ok he (cx := cx) (tv.out w R o) hr hy hl
  rw [blt_next (P := P) (f := Builtin.append_) (fun _ _ _ _ => rfl) h1]
  exact ⟨_, h2, q oa' cap'⟩

/-- append of a slice to nil. -/
theorem xapp0 {P : Program} {T : Tab} [c : TabC P T] {t ty el : TypeId} {cs : List Bool} {α : Type} {k : Nat} {enc : α → List Value} {ox : Option Addr} {cx c2 m : Nat} {ys : List α} {L : List Assn}
    {K : Ending → List Assn → Prop} [rd : RdS ox L α k enc c2 ys] (he : elemB T t el k = true) (hm : m = ys.length) (hl : ys.length ≤ 2147483648)
    (q : ∀ oa' cap', K (.returned (.slice oa' ys.length cap')) (vof el k enc oa' cap' ys :: L)) : VC P (.blt .append [t, t] ty cs [.slice none 0 0, .slice ox m cx]) L K := by
  refine ⟨fun w R o => ?_⟩
  subst hm
  obtain ⟨hr, hy, -, -⟩ := rd.out w R o
  obtain ⟨oa', cap', w', h1, h2⟩ := append_vof (ty := ty) c.ok he (cx := cx) (Ent.vof0 el k enc L w R o) hr hy (by simpa using hl)
  rw [blt_next (P := P) (f := Builtin.append_) (args := [.slice none 0 0, .slice ox ys.length cx]) (fun _ _ _ _ => rfl) h1]
  exact ⟨_, h2, q oa' cap'⟩

theorem reads_pts {w : World} {b : Nat} {e : TypeId} {cs : List Value} {L : List Assn} {R : Rest} (o : Own w (pts b e cs :: L) R) : Reads w (some ⟨b, 0, none⟩) cs := by
  intro j v hj
  refine ⟨_, rfl, ?_⟩
  rw [add_at, cell_of o.of_obj]
  simpa using hj

/-- append of some that are written out: `append(xs, a, b)`. -/
theorem xappl {P : Program} {T : Tab} [c : TabC P T] {t ty : TypeId} {cs : List Bool} {α : Type} {el eb : TypeId} {k : Nat} {enc : α → List Value} {oa : Option Addr} {b cap cx n m : Nat} {xs : List α} {ds : List Value} {L L1 L2 : List Assn}
    {K : Ending → List Assn → Prop} [tp : TakePts b L eb ds L1] [tv : TakeVof oa L1 α el k enc cap xs L2] (ys : List α) (he : elemB T t el k = true) (hn : n = xs.length) (hm : m = ys.length) (hd : ys.flatMap enc = ds) (hf : ∀ y ∈ ys, fine k (enc y))
    (hl : xs.length + ys.length ≤ 2147483648)
    (q : ∀ oa' cap', K (.returned (.slice oa' (xs ++ ys).length cap')) (vof el k enc oa' cap' (xs ++ ys) :: L2)) : VC P (.blt .append [t, t] ty cs [.slice oa n cap, .slice (some ⟨b, 0, none⟩) m cx]) L K := by
  refine ⟨fun w R o => ?_⟩
  subst hn; subst hm
  have o1 := tp.out w R o
  have hr := reads_pts o1
  rw [← hd] at hr
  obtain ⟨oa', cap', w', h1, h2⟩ := append_vof (ty := ty) c.ok he (cx := cx) (tv.out w R (Ent.drop _ _ w R o1)) hr hf hl
  rw [blt_next (P := P) (f := Builtin.append_) (fun _ _ _ _ => rfl) h1]
  exact ⟨_, h2, q oa' cap'⟩

theorem xappl0 {P : Program} {T : Tab} [c : TabC P T] {t ty : TypeId} {cs : List Bool} {α : Type} {el eb : TypeId} {k : Nat} (enc : α → List Value) {b cx m : Nat} {ds : List Value} {L L1 : List Assn}
    {K : Ending → List Assn → Prop} [tp : TakePts b L eb ds L1] (ys : List α) (he : elemB T t el k = true) (hm : m = ys.length) (hd : ys.flatMap enc = ds) (hf : ∀ y ∈ ys, fine k (enc y))
    (hl : ys.length ≤ 2147483648)
    (q : ∀ oa' cap', K (.returned (.slice oa' ys.length cap')) (vof el k enc oa' cap' ys :: L1)) : VC P (.blt .append [t, t] ty cs [.slice none 0 0, .slice (some ⟨b, 0, none⟩) m cx]) L K := by
  refine ⟨fun w R o => ?_⟩
  subst hm
  have o1 := tp.out w R o
  have hr := reads_pts o1
  rw [← hd] at hr
  obtain ⟨oa', cap', w', h1, h2⟩ := append_vof (ty := ty) c.ok he (cx := cx) (Ent.vof0 el k enc L1 w R (Ent.drop _ _ w R o1)) hr hf (by simpa using hl)
  rw [blt_next (P := P) (f := Builtin.append_) (args := [.slice none 0 0, .slice (some ⟨b, 0, none⟩) ys.length cx]) (fun _ _ _ _ => rfl) h1]
  exact ⟨_, h2, q oa' cap'⟩

/-- Parts laid into cells. -/
def splice (cs : List Value) (off : Nat) (vs : List Value) : List Value := cs.take off ++ vs ++ cs.drop (off + vs.length)

def fillL (place : Nat → Option (Nat × Nat)) (cells : List Value) : List (Nat × Value) → Option (List Value)
  | [] => some cells
  | (i, v) :: rest => match place i with
    | none => none
    | some (off, size) => bif Nat.beq (cellsL v).length size && Nat.ble (off + size) cells.length then fillL place (splice cells off (cellsL v)) rest else none

theorem foldl_set (off : Nat) : ∀ (vs : List Value) (j : Nat) (cs : Array Value), off + j + vs.length ≤ cs.size →
    (vs.zipIdx j).foldl (fun (cs : Array Value) (x : Value × Nat) => cs.setIfInBounds (off + x.2) x.1) cs = (splice cs.toList (off + j) vs).toArray
  | [], j, cs, _ => by simp [splice]
  | v :: vs, j, cs, h => by
    simp only [List.length_cons] at h
    rw [List.zipIdx_cons, List.foldl_cons, foldl_set off vs (j + 1) _ (by simp; omega)]
    congr 1
    unfold splice
    have := list_seg_step cs.toList (off + j) v vs (by simp; omega)
    simpa [Array.toList_setIfInBounds, Nat.add_assoc] using this

theorem fill_eq (place : Nat → Option (Nat × Nat)) : ∀ (ps : List (Nat × Value)) (cells : List Value) {out : List Value}, fillL place cells ps = some out → Instr.fill place cells.toArray ps = some out.toArray
  | [], cells, out, h => by simp only [fillL, Option.some.injEq] at h; subst h; rfl
  | (i, v) :: ps, cells, out, h => by
    unfold fillL at h
    unfold Instr.fill
    cases hp : place i with
    | none => rw [hp] at h; cases h
    | some q =>
      obtain ⟨off, size⟩ := q
      rw [hp] at h
      simp only at h
      cases hb : (Nat.beq (cellsL v).length size && Nat.ble (off + size) cells.length) with
      | false => rw [hb] at h; cases h
      | true =>
        rw [hb] at h
        simp only [cond_true] at h
        simp only [Bool.and_eq_true] at hb
        have h1 := Nat.eq_of_beq_eq_true hb.1
        have h2 := Nat.le_of_ble_eq_true hb.2
        have hs : v.cells.size = size := by rw [← h1, ← cellsL_eq, Array.length_toList]
        have hcond : (v.cells.size ≠ size || off + v.cells.size > cells.toArray.size) = false := by
          simp [hs]; omega
        simp only [hcond]
        have hf := foldl_set off v.cells.toList 0 cells.toArray (by simp [hs]; omega)
        rw [cellsL_eq] at hf
        have := fill_eq place ps _ h
        rw [← this]
        simp only [Bool.false_eq_true, if_false]
        congr 1
        rw [← Array.foldl_toList]
        simp only [Array.toList_zipIdx]
        rw [cellsL_eq]
        exact hf

def zerosL (zero : List Value) (n : Nat) : List Value := (List.range n).map fun i => zero.getD (i % zero.length) default

/-- A literal slice. -/
theorem xrow {P : Program} {T : Tab} [c : TabC P T] {t el k n : Nat} {ps : List (Nat × Value)} {te : TyI} {cells : List Value} {L : List Assn} {K : Ending → List Assn → Prop} (he : elemB T t el k = true) (hte : tk T el = some te)
    (hn : Nat.ble (n * k) 16777216 = true) (hc : fillL (fun i => some (i * k, k)) (zerosL te.zero (n * k)) ps = some cells)
    (q : ∀ b, K (.returned (.slice (some ⟨b, 0, none⟩) n n)) (pts b el cells :: L)) : VC P (.row t n ps) L K := by
  refine ⟨fun w R o => ?_⟩
  obtain ⟨x, z, hd, hx, hz, hs, hby, hzs, hk0⟩ := elem_parts c.ok he
  obtain ⟨x', hx', -, -, hz'⟩ := (c.ok _ te hte).info
  rw [hx] at hx'
  cases hx'
  rw [hz] at hz'
  simp only [Option.map_some, Option.some.injEq] at hz'
  have hle : ¬ (n * k > 2 ^ 24) := by have := Nat.le_of_ble_eq_true hn; omega
  have hfill := fill_eq _ ps _ hc
  have hzer : ∀ (zz : Array Value), zz = te.zero.toArray → (Array.range (n * k)).map (zz[· % zz.size]!) = (zerosL te.zero (n * k)).toArray := by
    intro zz e
    subst e
    apply Array.ext'
    simp only [zerosL, Array.toList_map, Array.toList_range]
    apply List.map_congr_left
    intro i _
    simp [Array.getElem!_eq_getD, List.getD_eq_getElem?_getD]
  have run : (Instr.buildSlice t n ps.toArray).run P w = .ok (.slice (some ⟨w.heap.size, 0, none⟩) n n) (w.alloc (.cells cells.toArray el (0, 0))) := by
    have hg : ∀ (zz : Array Value), (zz = te.zero.toArray ∨ n * k = 0) → Instr.fill (fun i => some (i * k, k)) ((Array.range (n * k)).map (zz[· % zz.size]!)) ps = some cells.toArray := by
      rintro zz (e | e)
      · rw [hzer zz e]; exact hfill
      · rw [← hfill]
        congr 1
        rw [e]
        simp [zerosL]
    by_cases h0 : n * k = 0
    · have := hg #[] (.inr h0)
      simp [Instr.buildSlice, underlying_run hd, sizeOf, typeInfo_run hx, hs, h0, newRow] at this ⊢
      simp [this]
    · have := hg z.cells (.inl hz')
      simp [Instr.buildSlice, underlying_run hd, sizeOf, typeInfo_run hx, hs, hle, h0, newRow, zeroValue, hz] at this ⊢
      simp [this]
  have : (Eff.next (.row t n ps)).run P w = .ok (.value (.slice (some ⟨w.heap.size, 0, none⟩) n n)) (w.alloc (.cells cells.toArray el (0, 0))) := by
    simp only [Eff.next, Sem.run_bind, run, Result.andThen_ok, Sem.run_pure]
  rw [this]
  exact ⟨_, o.alloc _, q _⟩


/-- append, what it comes to named. -/
theorem xappq {P : Program} {T : Tab} [c : TabC P T] {t ty : TypeId} {cs : List Bool} {α : Type} {el : TypeId} {k : Nat} {enc : α → List Value} {oa ox : Option Addr} {cap cx c2 n m : Nat} {xs ys : List α} {L L1 : List Assn}
    {K : Ending → List Assn → Prop} [tv : TakeVof oa L α el k enc cap xs L1] [rd : RdS ox L α k enc c2 ys] (zs : List α) (hz : xs ++ ys = zs) (he : elemB T t el k = true) (hn : n = xs.length) (hm : m = ys.length) (hl : zs.length ≤ 2147483648)
    (q : ∀ oa' cap', K (.returned (.slice oa' zs.length cap')) (vof el k enc oa' cap' zs :: L1)) : VC P (.blt .append [t, t] ty cs [.slice oa n cap, .slice ox m cx]) L K := by
  subst hz
  exact xapp he hn hm (by simpa using hl) q

end Go.X
