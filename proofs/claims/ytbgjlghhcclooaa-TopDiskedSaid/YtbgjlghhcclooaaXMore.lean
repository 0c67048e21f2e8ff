/- Slicing, conversions, literals of structs, max and min, sharing. A library; no statement of the seat is proved here. -/
import Derived.Test.YtbgjlghhcclooaaXAp
import Derived.Laws.BytesArg
import Derived.Laws.Strings
namespace Go.X
open Go

/-! ### Sharing what is owned -/
theorem xshare {P : Program} {x : Eff} {α : Type} (oa : Option Addr) {L L' : List Assn} {e : TypeId} {k : Nat} {enc : α → List Value} {cap : Nat} {xs : List α} {K : Ending → List Assn → Prop} [t : TakeVof oa L α e k enc cap xs L']
    (q : VC P x (sof k enc oa cap xs :: L') K) : VC P x L K := x_ent (share t) q
theorem cshare {P : Program} {T : Tab} {n : Nat} {c : Code} {env : Env} {α : Type} (oa : Option Addr) {L L' : List Assn} {e : TypeId} {k : Nat} {enc : α → List Value} {cap : Nat} {xs : List α} {X : Exit → Env → List Assn → Prop} [t : TakeVof oa L α e k enc cap xs L']
    (q : CodeVC P T n c env (sof k enc oa cap xs :: L') X) : CodeVC P T n c env L X := c_ent (share t) q
theorem rshare {v : Value} {Q : Ending → List Assn → Prop} {α : Type} (oa : Option Addr) {L L' : List Assn} {e : TypeId} {k : Nat} {enc : α → List Value} {cap : Nat} {xs : List α} [t : TakeVof oa L α e k enc cap xs L']
    (q : RetVC v (sof k enc oa cap xs :: L') Q) : RetVC v L Q := r_ent (share t) q

/-- A literal slice in a block, as one that is owned. -/
theorem xown {P : Program} {x : Eff} {α : Type} (b : Nat) {L L' : List Assn} {e : TypeId} {cs : List Value} {K : Ending → List Assn → Prop} [t : TakePts b L e cs L'] (k : Nat) (enc : α → List Value) (xs : List α)
    (h1 : xs.flatMap enc = cs) (h2 : ∀ x ∈ xs, fine k (enc x)) (h3 : xs.length ≤ maxLen) (q : VC P x (vof e k enc (some ⟨b, 0, none⟩) xs.length xs :: L') K) : VC P x L K :=
  x_ent (t.out.trans (Ent.own L' h1 h2 h3)) q
theorem cown {P : Program} {T : Tab} {n : Nat} {c : Code} {env : Env} {X : Exit → Env → List Assn → Prop} {α : Type} (b : Nat) {L L' : List Assn} {e : TypeId} {cs : List Value} [t : TakePts b L e cs L'] (k : Nat) (enc : α → List Value) (xs : List α)
    (h1 : xs.flatMap enc = cs) (h2 : ∀ x ∈ xs, fine k (enc x)) (h3 : xs.length ≤ maxLen) (q : CodeVC P T n c env (vof e k enc (some ⟨b, 0, none⟩) xs.length xs :: L') X) : CodeVC P T n c env L X :=
  c_ent (t.out.trans (Ent.own L' h1 h2 h3)) q

class HasSof (oa : Option Addr) (L : List Assn) (α : outParam Type) (k : outParam Nat) (enc : outParam (α → List Value)) (cap : outParam Nat) (xs : outParam (List α)) : Prop where
  out : Ent L (sof k enc oa cap xs :: L)
instance (priority := 100) HasSof.there {α : Type} {oa : Option Addr} {B : Assn} {L : List Assn} {k : Nat} {enc : α → List Value} {cap : Nat} {xs : List α} [r : HasSof oa L α k enc cap xs] : HasSof oa (B :: L) α k enc cap xs :=
  ⟨(Ent.cons B r.out).trans (Ent.swap B _ L)⟩
instance (priority := 200) HasSof.here {α : Type} {oa : Option Addr} {L : List Assn} {k : Nat} {enc : α → List Value} {cap : Nat} {xs : List α} : HasSof oa (sof k enc oa cap xs :: L) α k enc cap xs := ⟨Ent.dup (Pers.out (A := sof k enc oa cap xs)) L⟩
instance (priority := 400) HasSof.nil {α : Type} {oa : Option Addr} {L : List Assn} {k : Nat} {enc : α → List Value} {cap : Nat} {xs : List α} [r : HasSof oa L α k enc cap xs] : HasSof oa ([] ++ L) α k enc cap xs := ⟨r.out⟩
instance (priority := 400) HasSof.app {α : Type} {oa : Option Addr} {B : Assn} {M L : List Assn} {k : Nat} {enc : α → List Value} {cap : Nat} {xs : List α} [r : HasSof oa (B :: (M ++ L)) α k enc cap xs] : HasSof oa ((B :: M) ++ L) α k enc cap xs := ⟨r.out⟩

/-! ### Slicing -/
/-- A bound of a slice expression: not there, or a number. -/
inductive Bnd : Option Value → Nat → Nat → Prop
  | no {d : Nat} : Bnd none d d
  | is {k : IntKind} {i : Int} {d x : Nat} (e : i = (x : Int)) : Bnd (some (.int k i)) d x

theorem sliceBound_run {P : Program} {k : IntKind} {x y : Nat} (h : x ≤ y) (code : BoundsCode) (w : World) : (Instr.sliceBound (.int k (x : Int)) y code).run P w = .ok x w := by
  have : (0 : Int) ≤ x ∧ (x : Int) ≤ y := ⟨by omega, by omega⟩
  simp [Instr.sliceBound, asIntOf, this]

theorem sliceBounds_run {P : Program} {b : Bool} {n c l h : Nat} {lo hi : Option Value} (hl : Bnd lo 0 l) (hh : Bnd hi n h) (h1 : l ≤ h) (h2 : h ≤ c) (w : World) : (Instr.sliceBounds b n c lo hi none).run P w = .ok (l, h, c) w := by
  cases hl <;> cases hh
  · simp [Instr.sliceBounds]
  · rename_i e; subst e; simp [Instr.sliceBounds, sliceBound_run h2]
  · rename_i e; subst e; simp [Instr.sliceBounds, sliceBound_run h1]
  · rename_i e1 _ _ e2; subst e1; subst e2; simp [Instr.sliceBounds, sliceBound_run h1, sliceBound_run h2]

theorem flat_take_drop {α : Type} {k : Nat} {enc : α → List Value} {xs : List α} (hf : ∀ x ∈ xs, fine k (enc x)) (l h : Nat) {j : Nat} {v : Value} (hj : (((xs.take h).drop l).flatMap enc)[j]? = some v) : (xs.flatMap enc)[l * k + j]? = some v := by
  have h1 : xs.flatMap enc = (xs.take h).flatMap enc ++ (xs.drop h).flatMap enc := by rw [← List.flatMap_append, List.take_append_drop]
  have h2 : (xs.take h).flatMap enc = ((xs.take h).take l).flatMap enc ++ ((xs.take h).drop l).flatMap enc := by rw [← List.flatMap_append, List.take_append_drop]
  by_cases hl : l ≤ (xs.take h).length
  · have hlen : (((xs.take h).take l).flatMap enc).length = l * k := by
      rw [flat_length (k := k) fun x m => hf x (List.mem_of_mem_take (List.mem_of_mem_take m)), List.length_take, Nat.min_eq_left hl]
    rw [h1, h2, List.append_assoc, List.getElem?_append_right (by rw [hlen]; omega), hlen, Nat.add_sub_cancel_left, List.getElem?_append_left (List.getElem?_eq_some_iff.1 hj).1]
    exact hj
  · rw [List.drop_eq_nil_of_le (by omega)] at hj
    simp at hj

/-- A part of a shared slice. -/
theorem xslc {P : Program} {T : Tab} [c : TabC P T] {t : TypeId} {α : Type} {oa : Option Addr} {n cp k cap : Nat} {enc : α → List Value} {xs : List α} {lo hi : Option Value} {L : List Assn} {K : Ending → List Assn → Prop}
    [r : HasSof oa L α k enc cap xs] (h1 : elemK T t k = true) {l h : Nat} (hl : Bnd lo 0 l) (hh : Bnd hi n h) (hcp : cp = cap) (hlh : l ≤ h) (hhn : h ≤ xs.length)
    (q : ∀ oa' cap', K (.returned (.slice oa' ((xs.take h).drop l).length cap')) (sof k enc oa' cap' ((xs.take h).drop l) :: L)) : VC P (.slc t (.slice oa n cp) lo hi none) L K := by
  refine ⟨fun w R o => ?_⟩
  subst hcp
  have o1 := r.out w R o
  obtain ⟨hr, hk, hlc, hcm⟩ := o1.sof
  obtain ⟨e, hd, hsz, hk0⟩ := elemK_spec c.ok h1
  have hb := sliceBounds_run (P := P) (b := true) hl hh hlh (Nat.le_trans hhn hlc) w
  have hlen : ((xs.take h).drop l).length = h - l := by simp; omega
  have run : (Eff.next (.slc t (.slice oa n cp) lo hi none)).run P w = .ok (.value (.slice (if cp = l then oa else oa.map (·.add (l * k))) (h - l) (cp - l))) w := by
    simp [Eff.next, Instr.sliceAt, Instr.slice, underlying_run hd, hb, hsz]
  rw [run]
  have := q (if cp = l then oa else oa.map (·.add (l * k))) (cp - l)
  rw [hlen] at this
  refine ⟨_, ?_, this⟩
  -- the part is shared
  obtain ⟨F, hs, f, p, g, s, ev⟩ := o1
  cases f with
  | cons a f =>
    obtain ⟨a0, a1, a2, a3, a4⟩ := (show sofP _ _ _ _ _ _ _ from a)
    refine ⟨F, _, .cons (A := sof k enc _ _ _) ⟨a0, fun x m => a1 x (List.mem_of_mem_take (List.mem_of_mem_drop m)), by rw [hlen]; omega, by omega, ?_⟩ f, p, g, s, ev⟩
    rcases a4 with rfl | ⟨b, off, arr, e', fz, rfl, hF, hrd⟩
    · left; simp
    · by_cases hcl : cp = l
      · left
        apply List.eq_nil_of_length_eq_zero
        rw [hlen]; omega
      · right
        rw [if_neg hcl]
        refine ⟨b, off + l * k, arr, e', fz, by simp [add_at], hF, ?_⟩
        intro j v hj
        have := hrd _ v (flat_take_drop a1 l h hj)
        rw [← Nat.add_assoc] at this
        exact this

/-! ### Conversions -/
def eB (b : UInt8) : List Value := [.int .u8 (b.toNat : Int)]
theorem fineB (b : UInt8) : fine 1 (eB b) := ⟨rfl, rfl⟩
def strOf (xs : List UInt8) : ByteArray := ⟨xs.toArray⟩

theorem flat_eB (xs : List UInt8) : xs.flatMap eB = xs.map fun b => .int .u8 (b.toNat : Int) := by
  induction xs with
  | nil => rfl
  | cons x xs ih => rw [List.flatMap_cons, ih]; rfl

theorem nums_bytes (xs : List UInt8) : (xs.map fun b => ((b.toNat : Nat) : Int)).map (fun n => UInt8.ofNat n.toNat) = xs := by
  rw [List.map_map]
  conv => rhs; rw [← List.map_id xs]
  apply List.map_congr_left
  intro b _
  simp

/-- Bytes as a string. -/
theorem xcnv_bs {P : Program} {T : Tab} [c : TabC P T] {s d : TypeId} {ts td te : TyI} {oa : Option Addr} {n cp cap : Nat} {xs : List UInt8} {L : List Assn} {K : Ending → List Assn → Prop} [r : RdS oa L UInt8 1 eB cap xs]
    (h1 : tk T s = some ts) (h2 : Nat.beq ts.kind 5 = true) (h3 : tk T d = some td) (h4 : Nat.beq td.kind 3 = true) (h5 : tk T ts.elem = some te) (h6 : te.zero = [.int .u8 0]) (h7 : Nat.beq te.kind 1 = true) (hn : n = xs.length)
    (q : K (.returned (.string (strOf xs))) L) : VC P (.cnv s d (.slice oa n cp)) L K := by
  refine ⟨fun w R o => ?_⟩
  subst hn
  obtain ⟨hr, -, -, -⟩ := r.out w R o
  obtain ⟨ds, hds, hk, he⟩ := (c.ok s ts h1).desc
  obtain ⟨e, rfl⟩ := kind_slice (hk.trans (Nat.eq_of_beq_eq_true h2))
  simp only at he
  subst he
  obtain ⟨dd, hdd, hk', -⟩ := (c.ok d td h3).desc
  obtain rfl := kind_string (hk'.trans (Nat.eq_of_beq_eq_true h4))
  obtain ⟨de, hde, hk'', hze⟩ := (c.ok _ te h5).desc
  obtain ⟨kk, rfl⟩ := kind_int (hk''.trans (Nat.eq_of_beq_eq_true h7))
  obtain ⟨nn, hze⟩ := hze
  rw [h6] at hze
  simp only [List.cons.injEq, Value.int.injEq, and_true] at hze
  obtain ⟨rfl, -⟩ := hze
  have run : (Conv.bytesToString (.slice oa xs.length cp)).run P w = .ok (.string (strOf xs)) w := by
    cases oa with
    | none =>
      have : xs = [] := by
        cases xs with
        | nil => rfl
        | cons v vs => obtain ⟨a, ea, _⟩ := hr 0 _ rfl; cases ea
      subst this
      rfl
    | some a =>
      have hl := run_loadCells_list (P := P) w a (xs.flatMap eB) fun j v hj => by obtain ⟨a', ea, hc⟩ := hr j v hj; cases ea; exact hc
      rw [flat_length (k := 1) (fun x _ => fineB x), Nat.mul_one] at hl
      have e2 : (xs.flatMap eB).toArray = ((xs.map fun b => ((b.toNat : Nat) : Int)).map (Value.int .u8)).toArray := by rw [flat_eB, List.map_map]; rfl
      rw [e2] at hl
      rw [run_bytesToString (P := P) w a xs.length cp _ hl, foldl_push_bytes, nums_bytes]
      have : (ByteArray.empty.data ++ xs.toArray) = xs.toArray := by
        show (#[] ++ xs.toArray) = _
        simp
      unfold strOf
      rw [this]
  have : (Eff.next (.cnv s d (.slice oa xs.length cp))).run P w = .ok (.value (.string (strOf xs))) w := by
    simp [Eff.next, convert, underlying_run hds, underlying_run hdd, underlying_run hde, run]
  rw [this]
  exact ⟨L, o, q⟩


theorem Own.heap_eq {w w' : World} {L : List Assn} {R : Rest} (o : Own w L R) (h : w'.heap = w.heap) (h1 : w'.os = w.os) (h2 : w'.tape = w.tape) (h3 : w'.output = w.output) : Own w' L R := by
  obtain ⟨F, hs, f, p, q, s, ev⟩ := o
  have hp : hpOf w' = hpOf w := by unfold hpOf; rw [h]
  exact ⟨F, hs, f, p, fun h m => by rw [hp]; exact q h m, by rw [hp]; exact s, h1.trans ev.1, h2.trans ev.2.1, h3.trans ev.2.2⟩

/-- A string as bytes: a new row, that is shared at once (the model marks it). -/
theorem xcnv_sb {P : Program} {T : Tab} [c : TabC P T] {s d : TypeId} {ts td te : TyI} {x : ByteArray} {L : List Assn} {K : Ending → List Assn → Prop}
    (h1 : tk T s = some ts) (h2 : Nat.beq ts.kind 3 = true) (h3 : tk T d = some td) (h4 : Nat.beq td.kind 5 = true) (h5 : tk T td.elem = some te) (h6 : te.zero = [.int .u8 0]) (h7 : Nat.beq te.kind 1 = true) (hl : x.size ≤ 2147483648)
    (q : ∀ oa cap, K (.returned (.slice oa x.data.toList.length cap)) (sof 1 eB oa cap x.data.toList :: L)) : VC P (.cnv s d (.string x)) L K := by
  refine ⟨fun w R o => ?_⟩
  obtain ⟨ds, hds, hk, -⟩ := (c.ok s ts h1).desc
  obtain rfl := kind_string (hk.trans (Nat.eq_of_beq_eq_true h2))
  obtain ⟨dd, hdd, hk', he⟩ := (c.ok d td h3).desc
  obtain ⟨e, rfl⟩ := kind_slice (hk'.trans (Nat.eq_of_beq_eq_true h4))
  simp only at he
  subst he
  obtain ⟨de, hde, hk'', hze⟩ := (c.ok _ te h5).desc
  obtain ⟨kk, rfl⟩ := kind_int (hk''.trans (Nat.eq_of_beq_eq_true h7))
  obtain ⟨nn, hze⟩ := hze
  rw [h6] at hze
  simp only [List.cons.injEq, Value.int.injEq, and_true] at hze
  obtain ⟨rfl, -⟩ := hze
  have hxs : x.data.toList.length = x.size := by rw [Array.length_toList]; rfl
  let cp := grownCap w x.size 0 td.elem
  have hcpm : cp ≤ maxLen := grownCap_le_maxLen w _ _ _ (by simp [maxLen]; omega)
  have hcpg : x.size ≤ cp := grownCap_ge w _ _ _
  let arr : Array Value := (x.data.map fun b => Value.int .u8 b.toNat) ++ Array.replicate (cp - x.size) (.int .u8 0)
  have hasz : arr.size = cp := by simp only [arr, Array.size_append, Array.size_map, Array.size_replicate]; show x.size + _ = _; omega
  let w1 := w.drew.alloc (.cells arr td.elem (0, 0))
  have hw1 : w1.heap[w.heap.size]? = some (.cells arr td.elem (0, 0)) := by show (w.heap.push _)[w.heap.size]? = _; simp
  have hsz : (w1.shape? w.heap.size) = some (td.elem, cp) := by simp [World.shape?, hw1, hasz]
  let w2 := w1.freeze { block := w.heap.size, off := cp } 1
  have run : (Eff.next (.cnv s d (.string x))).run P w = .ok (.value (.slice (some ⟨w.heap.size, 0, none⟩) x.size cp)) w2 := by
    have e1 : (Conv.stringToBytes td.elem x).run P w = .ok (.slice (some ⟨w.heap.size, 0, none⟩) x.size cp) w2 := by
      simp only [Conv.stringToBytes, choose, Sem.run_bind]
      have hq : (Sem.choose (.appendCap x.size 0 td.elem) Sem.pure).run P w = .ok cp w.drew := by
        rfl
      rw [hq]
      simp only [Result.andThen_ok, newRow, newObj, Sem.run_bind]
      have hn : (Sem.new (.cells arr td.elem (0, 0)) Sem.pure).run P w.drew = .ok w.heap.size w1 := rfl
      rw [hn]
      simp only [Result.andThen_ok, Sem.run_pure, markStringish, shape, Sem.run_bind]
      have hsh : (Sem.shape w.heap.size Sem.pure).run P w1 = .ok (some (td.elem, cp)) w1 := by simp [Sem.run, hsz]
      rw [hsh]
      simp only [Result.andThen_ok, freeze]
      rfl
    simp [Eff.next, convert, underlying_run hds, underlying_run hdd, underlying_run hde, e1]
  rw [run]
  have := q (some ⟨w.heap.size, 0, none⟩) cp
  rw [hxs] at this
  refine ⟨_, ?_, this⟩
  have o1 : Own w1 (obj w.heap.size (.cells arr td.elem (0, 0)) :: L) R := o.draw.alloc _
  have hw2 : w2.heap[w.heap.size]? = some (.cells arr td.elem (cp, cp + 1)) := by
    show ((if (1 : Nat) = 0 then w1 else { w1 with heap := w1.heap.modify w.heap.size _ }) : World).heap[w.heap.size]? = _
    simp only [Nat.one_ne_zero, if_false]
    obtain ⟨hlt, hv⟩ := Array.getElem?_eq_some_iff.1 hw1
    rw [Array.getElem?_eq_getElem (by simpa using hlt), Array.getElem_modify_self, hv]
    rfl
  have hoth : ∀ c, c ≠ w.heap.size → w2.heap[c]? = w1.heap[c]? := by
    intro c hc
    show ((if (1 : Nat) = 0 then w1 else { w1 with heap := w1.heap.modify w.heap.size _ }) : World).heap[c]? = _
    simp only [Nat.one_ne_zero, if_false, Array.getElem?_modify, if_neg (Ne.symm hc)]
  have o2 := o1.write hw2 hoth rfl rfl rfl
  have o3 := Ent.freeze _ _ L w2 R o2
  refine Ent.head (A := frz w.heap.size (.cells arr td.elem (cp, cp + 1))) (B := sof 1 eB (some ⟨w.heap.size, 0, none⟩) cp x.data.toList) (fun F h g => ⟨g.1, fun y _ => fineB y, by omega, hcpm, .inr ⟨_, 0, arr, _, _, rfl, g.2, ?_⟩⟩) L w2 R o3
  intro j v hj
  rw [flat_eB] at hj
  have hlt := (List.getElem?_eq_some_iff.1 hj).1
  simp only [List.length_map] at hlt
  rw [Nat.zero_add]
  simp only [arr]
  rw [Array.getElem?_append_left (by simpa using hlt)]
  simpa using hj

/-! ### max, min, cap -/
theorem xmax {P : Program} {k k' : IntKind} {tys : List TypeId} {ty : TypeId} {cs : List Bool} {a b : Int} {L : List Assn} {K : Ending → List Assn → Prop} (q : K (.returned (.int k (max a b))) L) : VC P (.blt .max tys ty cs [.int k a, .int k' b]) L K := by
  refine ⟨fun w R o => ?_⟩
  have : (Eff.next (.blt .max tys ty cs [.int k a, .int k' b])).run P w = .ok (.value (.int k (max a b))) w := by
    have e : (if a < b then b else a) = max a b := by omega
    simp [Eff.next, builtin, Builtin.max_, Builtin.max2, e]
  rw [this]
  exact ⟨L, o, q⟩
theorem xmin {P : Program} {k k' : IntKind} {tys : List TypeId} {ty : TypeId} {cs : List Bool} {a b : Int} {L : List Assn} {K : Ending → List Assn → Prop} (q : K (.returned (.int k (min a b))) L) : VC P (.blt .min tys ty cs [.int k a, .int k' b]) L K := by
  refine ⟨fun w R o => ?_⟩
  have : (Eff.next (.blt .min tys ty cs [.int k a, .int k' b])).run P w = .ok (.value (.int k (min a b))) w := by
    have e : (if b < a then b else a) = min a b := by omega
    simp [Eff.next, builtin, Builtin.min_, Builtin.min2, e]
  rw [this]
  exact ⟨L, o, q⟩
theorem xcap {P : Program} {T : Tab} [c : TabC P T] {t ty : TypeId} {ti : TyI} {cs : List Bool} {oa : Option Addr} {n cp : Nat} {L : List Assn} {K : Ending → List Assn → Prop} (h1 : tk T t = some ti) (h2 : Nat.beq ti.kind 5 = true)
    (q : K (.returned (.int .i64 cp)) L) : VC P (.blt .cap [t] ty cs [.slice oa n cp]) L K := by
  refine ⟨fun w R o => ?_⟩
  obtain ⟨d, hd, hk, -⟩ := (c.ok t ti h1).desc
  obtain ⟨e, rfl⟩ := kind_slice (hk.trans (Nat.eq_of_beq_eq_true h2))
  have : (Eff.next (.blt .cap [t] ty cs [.slice oa n cp])).run P w = .ok (.value (.int .i64 cp)) w := by
    simp [Eff.next, builtin, Builtin.cap_, underlying_run hd, goInt]
  rw [this]
  exact ⟨L, o, q⟩

/-! ### Structs -/
def places (offs szs : List Nat) (i : Nat) : Option (Nat × Nat) := match offs[i]?, szs[i]? with
  | some o, some s => some (o, s)
  | _, _ => none

theorem mapM_places {P : Program} : ∀ (fs : List Field) (offs szs : List Nat), fs.map (·.offset) = offs → fs.map (fun f => ((P.info? f.type).map (·.size)).getD 0) = szs → (fs.all fun f => (P.info? f.type).any (·.size != 0)) = true →
    ∀ w, (fs.mapM (fun f => do pure (f.offset, ← sizeOf f.type)) : Sem (List (Nat × Nat))).run P w = .ok (offs.zip szs) w := by
  intro fs
  induction fs with
  | nil => intro offs szs h1 h2 _ w; subst h1; subst h2; rfl
  | cons f fs ih =>
    intro offs szs h1 h2 h3 w
    subst h1; subst h2
    simp only [List.all_cons, Bool.and_eq_true] at h3
    cases hi : P.info? f.type with
    | none => rw [hi] at h3; simp at h3
    | some y =>
      have hsz : (sizeOf f.type).run P w = .ok y.size w := by simp [sizeOf, typeInfo_run hi]
      simp only [List.mapM_cons, Sem.run_bind, hsz, Result.andThen_ok, Sem.run_pure, ih _ _ rfl rfl h3.2 w, List.map_cons, List.zip_cons_cons, hi, Option.map_some, Option.getD_some]

/-- A struct of its parts. -/
theorem xbld {P : Program} {T : Tab} [c : TabC P T] {t : TypeId} {ti : TyI} {ps : List (Nat × Value)} {cells : List Value} {L : List Assn} {K : Ending → List Assn → Prop} (h1 : tk T t = some ti) (h2 : Nat.beq ti.kind 7 = true)
    (hc : fillL (places ti.offs ti.szs) ti.zero ps = some cells) (q : K (.returned (.agg cells.toArray)) L) : VC P (.bld t ps) L K := by
  refine ⟨fun w R o => ?_⟩
  obtain ⟨d, hd, hk, hf⟩ := (c.ok t ti h1).desc
  obtain ⟨fs, rfl⟩ := kind_struct (hk.trans (Nat.eq_of_beq_eq_true h2))
  obtain ⟨x, hx, -, -, hz⟩ := (c.ok t ti h1).info
  obtain ⟨f1, f2, f3⟩ := hf
  cases hxz : x.zero with
  | none => rw [hxz] at hz; cases hz
  | some z =>
    rw [hxz] at hz
    simp only [Option.map_some, Option.some.injEq] at hz
    have hm := mapM_places (P := P) fs.toList _ _ f1 f3 f2 w
    have hfill := fill_eq _ ps _ hc
    have hpl : (fun i => (ti.offs.zip ti.szs).toArray[i]?) = places ti.offs ti.szs := by
      funext i
      simp only [places, List.getElem?_toArray, List.zip, List.getElem?_zipWith]
      cases ti.offs[i]? <;> cases ti.szs[i]? <;> rfl
    have : (Eff.next (.bld t ps)).run P w = .ok (.value (.agg cells.toArray)) w := by
      simp only [Eff.next, Instr.build, Sem.run_bind, zeroValue, typeInfo_run hx, Result.andThen_ok, hxz, Sem.run_pure, underlying_run hd]
      rw [Array.mapM_eq_mapM_toList]
      simp only [Sem.run_map, hm, Result.andThen_ok, hz, hpl, hfill, Sem.run_pure]
    rw [this]
    exact ⟨L, o, q⟩

end Go.X
