/- Slices: contents that are shared and stay, rows that are owned and grow. A library; no statement of the seat is proved here. -/
import Derived.Test.YtbgjlghhcclooaaXLaw
namespace Go.X
open Go

def Reads (w : World) (oa : Option Addr) (cells : List Value) : Prop := ∀ j v, cells[j]? = some v → ∃ a, oa = some a ∧ w.cell? (a.add j) = some v

def fine (k : Nat) (cs : List Value) : Prop := cs.length = k ∧ okCells cs = true

def sofP {α : Type} (k : Nat) (enc : α → List Value) (oa : Option Addr) (cap : Nat) (xs : List α) (F h : Hp) : Prop :=
  h = Hp.emp ∧ (∀ x ∈ xs, fine k (enc x)) ∧ xs.length ≤ cap ∧ cap ≤ maxLen ∧
    (xs = [] ∨ ∃ (b off : Nat) (arr : Array Value) (e : TypeId) (fz : Nat × Nat), oa = some ⟨b, off, none⟩ ∧ F b = some (.cells arr e fz) ∧ ∀ (j : Nat) (v : Value), (xs.flatMap enc)[j]? = some v → arr[off + j]? = some v)
def vofP {α : Type} (e : TypeId) (k : Nat) (enc : α → List Value) (oa : Option Addr) (cap : Nat) (xs : List α) (h : Hp) : Prop :=
  (oa = none ∧ xs = [] ∧ cap = 0 ∧ h = Hp.emp) ∨
    ∃ (b : Nat) (arr : Array Value), oa = some ⟨b, 0, none⟩ ∧ h = Hp.one b (.cells arr e (0, 0)) ∧ arr.size = cap * k ∧ xs.length ≤ cap ∧ cap ≤ maxLen ∧ (∀ x ∈ xs, fine k (enc x)) ∧
      ∀ (j : Nat) (v : Value), (xs.flatMap enc)[j]? = some v → arr[j]? = some v

/-- A slice's contents, shared: nobody writes there any more. -/
def sof {α : Type} (k : Nat) (enc : α → List Value) (oa : Option Addr) (cap : Nat) (xs : List α) : Assn :=
  ⟨fun F h => sofP k enc oa cap xs F h, fun l h => ⟨h.1, h.2.1, h.2.2.1, h.2.2.2.1, h.2.2.2.2.imp id fun ⟨b, off, arr, e, fz, h1, h2, h3⟩ => ⟨b, off, arr, e, fz, h1, l _ _ h2, h3⟩⟩⟩

/-- A slice that is owned: it may be appended to. -/
def vof {α : Type} (e : TypeId) (k : Nat) (enc : α → List Value) (oa : Option Addr) (cap : Nat) (xs : List α) : Assn :=
  ⟨fun _ h => vofP e k enc oa cap xs h, fun _ h => h⟩

instance {α : Type} {k : Nat} {enc : α → List Value} {oa : Option Addr} {cap : Nat} {xs : List α} : Pers (sof k enc oa cap xs) := ⟨fun _ _ h => h.1⟩
instance {p : Prop} : Pers (fact p) := ⟨fun _ _ h => h.1⟩
instance {b : Nat} {o : Obj} : Pers (frz b o) := ⟨fun _ _ h => h.1⟩

theorem flat_length {α : Type} {k : Nat} {enc : α → List Value} : ∀ {xs : List α}, (∀ x ∈ xs, fine k (enc x)) → (xs.flatMap enc).length = xs.length * k
  | [], _ => by simp
  | x :: xs, h => by
    rw [List.flatMap_cons, List.length_append, (h x (.head _)).1, flat_length (xs := xs) fun y m => h y (.tail _ m), List.length_cons, Nat.succ_mul, Nat.add_comm]

theorem flat_get {α : Type} {k : Nat} {enc : α → List Value} : ∀ {xs : List α}, (∀ x ∈ xs, fine k (enc x)) → ∀ {i : Nat} {x : α}, xs[i]? = some x → ∀ {f : Nat} {v : Value}, (enc x)[f]? = some v → (xs.flatMap enc)[i * k + f]? = some v
  | [], _, i, x, hx, _, _, _ => by simp at hx
  | y :: ys, h, 0, x, hx, f, v, hv => by
    simp only [List.getElem?_cons_zero, Option.some.injEq] at hx
    subst hx
    rw [List.flatMap_cons, List.getElem?_append_left (by simpa using (List.getElem?_eq_some_iff.1 hv).1)]
    simpa using hv
  | y :: ys, h, i + 1, x, hx, f, v, hv => by
    have hk := (h y (.head _)).1
    rw [List.flatMap_cons, List.getElem?_append_right (by rw [hk, Nat.succ_mul]; omega)]
    have := flat_get (xs := ys) (fun z m => h z (.tail _ m)) (i := i) (by simpa using hx) hv
    rw [hk]
    rw [show (i + 1) * k + f - k = i * k + f by rw [Nat.succ_mul]; omega]
    exact this

/-- What a slice of the context reads as. -/
class RdS (oa : Option Addr) (L : List Assn) (α : outParam Type) (k : outParam Nat) (enc : outParam (α → List Value)) (cap : outParam Nat) (xs : outParam (List α)) : Prop where
  out : ∀ w R, Own w L R → Reads w oa (xs.flatMap enc) ∧ (∀ x ∈ xs, fine k (enc x)) ∧ xs.length ≤ cap ∧ cap ≤ maxLen

theorem Own.sof {w : World} {α : Type} {k : Nat} {enc : α → List Value} {oa : Option Addr} {cap : Nat} {xs : List α} {L : List Assn} {R : Rest} (o : Own w (sof k enc oa cap xs :: L) R) :
    Reads w oa (xs.flatMap enc) ∧ (∀ x ∈ xs, fine k (enc x)) ∧ xs.length ≤ cap ∧ cap ≤ maxLen := by
  obtain ⟨F, hs, f, p, q, s, e⟩ := o
  cases f with
  | cons a f =>
    obtain ⟨-, h1, h2, h3, h4⟩ := a
    refine ⟨?_, h1, h2, h3⟩
    intro j v hv
    rcases h4 with rfl | ⟨b, off, arr, e, fz, rfl, hb, hr⟩
    · simp at hv
    · refine ⟨_, rfl, ?_⟩
      rw [add_at, cell_of (s.2.1 _ _ hb)]
      exact hr j v hv

theorem Own.vof {w : World} {α : Type} {e : TypeId} {k : Nat} {enc : α → List Value} {oa : Option Addr} {cap : Nat} {xs : List α} {L : List Assn} {R : Rest} (o : Own w (vof e k enc oa cap xs :: L) R) :
    Reads w oa (xs.flatMap enc) ∧ (∀ x ∈ xs, fine k (enc x)) ∧ xs.length ≤ cap ∧ cap ≤ maxLen := by
  obtain ⟨F, hs, f, p, q, s, e⟩ := o
  cases f with
  | cons a f =>
    rcases (show vofP _ _ _ _ _ _ _ from a) with ⟨rfl, rfl, rfl, -⟩ | ⟨b, arr, rfl, rfl, h1, h2, h3, h4, h5⟩
    · exact ⟨(fun j v hv => by simp at hv), (fun x m => by cases m), Nat.le_refl _, by simp [maxLen]⟩
    · refine ⟨fun j v hv => ⟨_, rfl, ?_⟩, h4, h2, h3⟩
      rw [add_at, cell_of ((q _ (.head _)).1 _ _ (Hp.one_self _ _))]
      simpa using h5 j v hv

instance (priority := 100) RdS.there {α : Type} {oa : Option Addr} {B : Assn} {L : List Assn} {k : Nat} {enc : α → List Value} {cap : Nat} {xs : List α} [r : RdS oa L α k enc cap xs] : RdS oa (B :: L) α k enc cap xs :=
  ⟨fun w R o => r.out w R (Ent.drop B L w R o)⟩
instance (priority := 200) RdS.sof {α : Type} {oa : Option Addr} {L : List Assn} {k : Nat} {enc : α → List Value} {cap : Nat} {xs : List α} : RdS oa (X.sof k enc oa cap xs :: L) α k enc cap xs := ⟨fun _ _ o => o.sof⟩
instance (priority := 200) RdS.vof {α : Type} {oa : Option Addr} {L : List Assn} {e : TypeId} {k : Nat} {enc : α → List Value} {cap : Nat} {xs : List α} : RdS oa (X.vof e k enc oa cap xs :: L) α k enc cap xs := ⟨fun _ _ o => o.vof⟩
instance (priority := 400) RdS.nil {α : Type} {oa : Option Addr} {L : List Assn} {k : Nat} {enc : α → List Value} {cap : Nat} {xs : List α} [r : RdS oa L α k enc cap xs] : RdS oa ([] ++ L) α k enc cap xs := ⟨r.out⟩
instance (priority := 400) RdS.app {α : Type} {oa : Option Addr} {B : Assn} {M L : List Assn} {k : Nat} {enc : α → List Value} {cap : Nat} {xs : List α} [r : RdS oa (B :: (M ++ L)) α k enc cap xs] : RdS oa ((B :: M) ++ L) α k enc cap xs := ⟨r.out⟩

class TakeVof (oa : Option Addr) (L : List Assn) (α : outParam Type) (e : outParam TypeId) (k : outParam Nat) (enc : outParam (α → List Value)) (cap : outParam Nat) (xs : outParam (List α)) (L' : outParam (List Assn)) : Prop where
  out : Ent L (vof e k enc oa cap xs :: L')
instance (priority := 100) TakeVof.there {α : Type} {oa : Option Addr} {B : Assn} {L L' : List Assn} {e : TypeId} {k : Nat} {enc : α → List Value} {cap : Nat} {xs : List α} [t : TakeVof oa L α e k enc cap xs L'] :
    TakeVof oa (B :: L) α e k enc cap xs (B :: L') := ⟨(Ent.cons B t.out).trans (Ent.swap B _ L')⟩
instance (priority := 200) TakeVof.here {α : Type} {oa : Option Addr} {L : List Assn} {e : TypeId} {k : Nat} {enc : α → List Value} {cap : Nat} {xs : List α} : TakeVof oa (vof e k enc oa cap xs :: L) α e k enc cap xs L := ⟨Ent.refl _⟩
instance (priority := 400) TakeVof.nil {α : Type} {oa : Option Addr} {L L' : List Assn} {e : TypeId} {k : Nat} {enc : α → List Value} {cap : Nat} {xs : List α} [t : TakeVof oa L α e k enc cap xs L'] :
    TakeVof oa ([] ++ L) α e k enc cap xs L' := ⟨t.out⟩
instance (priority := 400) TakeVof.app {α : Type} {oa : Option Addr} {B : Assn} {M L L' : List Assn} {e : TypeId} {k : Nat} {enc : α → List Value} {cap : Nat} {xs : List α} [t : TakeVof oa (B :: (M ++ L)) α e k enc cap xs L'] :
    TakeVof oa ((B :: M) ++ L) α e k enc cap xs L' := ⟨t.out⟩

/-- A nil slice, to be appended to. -/
theorem Ent.vof0 {α : Type} (e : TypeId) (k : Nat) (enc : α → List Value) (L : List Assn) : Ent L (vof e k enc none 0 [] :: L) := by
  intro w R o
  exact Ent.head (A := X.fact True) (B := vof e k enc none 0 []) (fun F h g => Or.inl ⟨rfl, rfl, rfl, g.1⟩) L w R (Ent.fact trivial L w R o)
/-- A nil slice, shared. -/
theorem Ent.sof0 {α : Type} (k : Nat) (enc : α → List Value) (oa : Option Addr) (cap : Nat) (hc : cap ≤ maxLen) (L : List Assn) : Ent L (sof k enc oa cap [] :: L) := by
  intro w R o
  exact Ent.head (A := X.fact True) (B := sof k enc oa cap []) (fun F h g => ⟨g.1, fun x m => (by cases m), Nat.zero_le _, hc, .inl rfl⟩) L w R (Ent.fact trivial L w R o)

/-- What is owned may be shared for good. -/
theorem Ent.share {α : Type} {e : TypeId} {k : Nat} {enc : α → List Value} {oa : Option Addr} {cap : Nat} {xs : List α} (L : List Assn) : Ent (vof e k enc oa cap xs :: L) (sof k enc oa cap xs :: L) := by
  intro w R o
  obtain ⟨i, hi, o'⟩ := Own.split (ι := Option (Nat × Array Value)) (φ := fun i => match i with
      | none => oa = none ∧ xs = [] ∧ cap = 0
      | some (b, arr) => oa = some ⟨b, 0, none⟩ ∧ arr.size = cap * k ∧ xs.length ≤ cap ∧ cap ≤ maxLen ∧ (∀ x ∈ xs, fine k (enc x)) ∧ ∀ j v, (xs.flatMap enc)[j]? = some v → arr[j]? = some v)
    (B := fun i => match i with | none => X.fact True | some (b, arr) => obj b (.cells arr e (0, 0))) (fun F h a => by
      rcases (show vofP _ _ _ _ _ _ _ from a) with ⟨h1, h2, h3, h4⟩ | ⟨b, arr, h1, h2, h3⟩
      · exact ⟨none, ⟨h1, h2, h3⟩, h4, trivial⟩
      · exact ⟨some (b, arr), ⟨h1, h3⟩, h2⟩) o
  cases i with
  | none =>
    obtain ⟨rfl, rfl, rfl⟩ := hi
    exact Ent.head (A := X.fact True) (B := sof k enc none 0 []) (fun F h g => ⟨g.1, fun x m => (by cases m), Nat.zero_le _, by simp [maxLen], .inl rfl⟩) L w R o'
  | some p =>
    obtain ⟨b, arr⟩ := p
    obtain ⟨rfl, h1, h2, h3, h4, h5⟩ := hi
    have o2 := Ent.freeze b (.cells arr e (0, 0)) L w R o'
    exact Ent.head (A := frz b (.cells arr e (0, 0))) (B := sof k enc (some ⟨b, 0, none⟩) cap xs) (fun F h g => ⟨g.1, h4, h2, h3, .inr ⟨b, 0, arr, e, (0, 0), rfl, g.2, fun j v hv => by simpa using h5 j v hv⟩⟩) L w R o2

theorem share {α : Type} {oa : Option Addr} {L L' : List Assn} {e : TypeId} {k : Nat} {enc : α → List Value} {cap : Nat} {xs : List α} (t : TakeVof oa L α e k enc cap xs L') : Ent L (sof k enc oa cap xs :: L') := t.out.trans (Ent.share L')

/-- A block of cells, as a slice that is owned. -/
theorem Ent.own {α : Type} {b : Nat} {e : TypeId} {cs : List Value} {k : Nat} {enc : α → List Value} {xs : List α} (L : List Assn) (h1 : xs.flatMap enc = cs) (h2 : ∀ x ∈ xs, fine k (enc x)) (h3 : xs.length ≤ maxLen) :
    Ent (pts b e cs :: L) (vof e k enc (some ⟨b, 0, none⟩) xs.length xs :: L) :=
  Ent.head (A := pts b e cs) (B := vof e k enc (some ⟨b, 0, none⟩) xs.length xs) (fun F h g => Or.inr ⟨b, cs.toArray, rfl, g, by rw [← h1, List.size_toArray, flat_length h2], Nat.le_refl _, h3, h2, fun j v hv => by rw [h1] at hv; simpa using hv⟩) L

def oget (oa : Option Addr) : Addr := oa.getD ⟨0, 0, none⟩

theorem reads_some {w : World} {oa : Option Addr} {cells : List Value} (h : Reads w oa cells) {j : Nat} {v : Value} (hj : cells[j]? = some v) : oa = some (oget oa) ∧ w.cell? ((oget oa).add j) = some v := by
  obtain ⟨a, rfl, hc⟩ := h j v hj
  exact ⟨rfl, hc⟩

/-- The type is that of a slice of elements of so many cells. -/
def elemK (T : Tab) (t k : Nat) : Bool := match tk T t with
  | some ti => match tk T ti.elem with
    | some te => Nat.beq ti.kind 5 && Nat.beq te.size k && Nat.blt 0 k
    | none => false
  | none => false
theorem elemK_spec {P : Program} {T : Tab} (hT : TabOK P T) {t k : Nat} (h : elemK T t k = true) : ∃ e, P.underlying t = some (.slice e) ∧ (∀ w, (sizeOf e).run P w = .ok k w) ∧ 0 < k := by
  unfold elemK at h
  split at h
  · rename_i ti h1
    split at h
    · rename_i te h3
      simp only [Bool.and_eq_true] at h
      obtain ⟨⟨g1, g2⟩, g3⟩ := h
      obtain ⟨d, hd, hkd, he⟩ := (hT t ti h1).desc
      obtain ⟨e, rfl⟩ := kind_slice (hkd.trans (Nat.eq_of_beq_eq_true g1))
      simp only at he
      subst he
      refine ⟨_, hd, fun w => ?_, by simpa using g3⟩
      rw [sizeOf_run (hT _ te h3) w, Nat.eq_of_beq_eq_true g2]
    · cases h
  · cases h

/-- The address of a slice's element. -/
theorem xidx {P : Program} {T : Tab} [c : TabC P T] {t : TypeId} {α : Type} {oa : Option Addr} {n cp k cap : Nat} {enc : α → List Value} {xs : List α} {kk : IntKind} {i : Int} {L : List Assn} {K : Ending → List Assn → Prop}
    [r : RdS oa L α k enc cap xs] (h1 : elemK T t k = true) (hn : n ≤ xs.length) (hi : 0 ≤ i ∧ i < n)
    (q : K (.returned (.pointer (some ((oget oa).add (i.toNat * k))))) L) : VC P (.idx t (.slice oa n cp) (.int kk i)) L K := by
  refine ⟨fun w R o => ?_⟩
  obtain ⟨hr, hk, -, -⟩ := r.out w R o
  obtain ⟨e, hd, hsz, hk0⟩ := elemK_spec c.ok h1
  have hil : i.toNat < xs.length := by omega
  have hx : xs[i.toNat]? = some xs[i.toNat] := List.getElem?_eq_getElem hil
  have hlen := (hk _ (List.getElem_mem hil)).1
  have hv : (enc xs[i.toNat])[0]? = some (enc xs[i.toNat])[0] := List.getElem?_eq_getElem (by omega)
  obtain ⟨hoa, -⟩ := reads_some hr (flat_get hk hx hv)
  have : (Eff.next (.idx t (.slice oa n cp) (.int kk i))).run P w = .ok (.value (.pointer (some ((oget oa).add (i.toNat * k))))) w := by
    rw [hoa]
    simp [Eff.next, Instr.indexAt, asIntOf, underlying_run hd, hi, hsz, oget]
  rw [this]
  exact ⟨L, o, q⟩

/-- An element of one cell is loaded. -/
theorem xlde {P : Program} {T : Tab} [c : TabC P T] {t : TypeId} {α : Type} {oa : Option Addr} {k cap j : Nat} {enc : α → List Value} {xs : List α} {L : List Assn} {K : Ending → List Assn → Prop} [r : RdS oa L α k enc cap xs]
    {x : α} {v : Value} (h1 : one T t = true) (hx : xs[j]? = some x) (hv : enc x = [v]) (q : K (.returned v) L) : VC P (.load t ((oget oa).add (j * k))) L K := by
  refine ⟨fun w R o => ?_⟩
  obtain ⟨hr, hk, -, -⟩ := r.out w R o
  obtain ⟨-, hc⟩ := reads_some hr (flat_get hk hx (f := 0) (v := v) (by rw [hv]; rfl))
  rw [loadAt_run (load_one c.ok h1 (v := v) (by simpa using hc))]
  exact ⟨L, o, q⟩

/-- An element that is a struct or an array is loaded. -/
theorem xldes {P : Program} {T : Tab} [c : TabC P T] {t n : TypeId} {α : Type} {oa : Option Addr} {k cap j : Nat} {enc : α → List Value} {xs : List α} {L : List Assn} {K : Ending → List Assn → Prop} [r : RdS oa L α k enc cap xs]
    {x : α} (h1 : many T t = n + 1) (h2 : k = n + 1) (hx : xs[j]? = some x) (q : K (.returned (.agg (enc x).toArray)) L) : VC P (.load t ((oget oa).add (j * k))) L K := by
  refine ⟨fun w R o => ?_⟩
  obtain ⟨hr, hk, -, -⟩ := r.out w R o
  have hl := (hk x (List.mem_of_getElem? hx)).1
  rw [loadAt_run (load_many c.ok h1 (cs := enc x) (hl.trans h2) fun f v hf => ?_)]
  · exact ⟨L, o, q⟩
  · obtain ⟨hoa, hc⟩ := reads_some hr (flat_get hk hx hf)
    have hsp : ∀ (a : Addr) (m p : Nat), w.cell? (a.add (m + p)) = some v → w.cell? ((a.add m).add p) = some v := by
      intro a m p h
      rcases Nat.eq_zero_or_pos p with rfl | hp
      · rw [Nat.add_zero] at h; simpa [Addr.add] using h
      · rcases Nat.eq_zero_or_pos m with rfl | hm
        · simpa [Addr.add] using h
        · have e1 : a.add (m + p) = ⟨a.block, a.off + (m + p), none⟩ := by unfold Addr.add; rw [if_neg (by omega)]
          have e2 : (a.add m).add p = ⟨a.block, a.off + m + p, none⟩ := by
            have : a.add m = ⟨a.block, a.off + m, none⟩ := by unfold Addr.add; rw [if_neg (by omega)]
            rw [this, add_at]
          rw [e1] at h; rw [e2, Nat.add_assoc]; exact h
    exact hsp _ _ _ hc

theorem add_add {w : World} {v : Value} (a : Addr) (m p : Nat) (h : w.cell? (a.add (m + p)) = some v) : w.cell? ((a.add m).add p) = some v := by
  rcases Nat.eq_zero_or_pos p with rfl | hp
  · rw [Nat.add_zero] at h; simpa [Addr.add] using h
  · rcases Nat.eq_zero_or_pos m with rfl | hm
    · simpa [Addr.add] using h
    · have e1 : a.add (m + p) = ⟨a.block, a.off + (m + p), none⟩ := by unfold Addr.add; rw [if_neg (by omega)]
      have e2 : (a.add m).add p = ⟨a.block, a.off + m + p, none⟩ := by
        have : a.add m = ⟨a.block, a.off + m, none⟩ := by unfold Addr.add; rw [if_neg (by omega)]
        rw [this, add_at]
      rw [e1] at h; rw [e2, Nat.add_assoc]; exact h

/-- A field of an element is loaded. -/
theorem xldf {P : Program} {T : Tab} [c : TabC P T] {t : TypeId} {α : Type} {oa : Option Addr} {k cap j f : Nat} {enc : α → List Value} {xs : List α} {L : List Assn} {K : Ending → List Assn → Prop} [r : RdS oa L α k enc cap xs]
    {x : α} {v : Value} (h1 : one T t = true) (hx : xs[j]? = some x) (hv : (enc x)[f]? = some v) (q : K (.returned v) L) : VC P (.load t (plus ((oget oa).add (j * k)) f)) L K := by
  rw [plus_eq]
  refine ⟨fun w R o => ?_⟩
  obtain ⟨hr, hk, -, -⟩ := r.out w R o
  obtain ⟨-, hc⟩ := reads_some hr (flat_get hk hx hv)
  rw [loadAt_run (load_one c.ok h1 (v := v) (add_add _ _ _ hc))]
  exact ⟨L, o, q⟩

end Go.X
