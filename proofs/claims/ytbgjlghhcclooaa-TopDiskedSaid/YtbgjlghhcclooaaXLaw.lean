/- Laws for the conditions of XVc: tests, sums, loads, stores, calls, loops. A library; no statement of the seat is proved here. -/
import Derived.Test.YtbgjlghhcclooaaXVc
import Derived.Laws.CopyRow
import Derived.Laws.AppendOwn
import Derived.Laws.MakeOwn
namespace Go.X
open Go

/-- The seat's table of types. -/
class TabC (P : Program) (T : outParam Tab) : Prop where
  ok : TabOK P T

/-! ### Changing what is owned -/

theorem Own.split {ι : Type} {A : Assn} {B : ι → Assn} {φ : ι → Prop} (h : ∀ F k, A.holds F k → ∃ i, φ i ∧ (B i).holds F k) {w : World} {L : List Assn} {R : Rest} (o : Own w (A :: L) R) :
    ∃ i, φ i ∧ Own w (B i :: L) R := by
  obtain ⟨F, hs, f, p, q, s, e⟩ := o
  cases f with
  | cons a f =>
    obtain ⟨i, hi, b⟩ := h _ _ a
    exact ⟨i, hi, F, _, .cons b f, p, q, s, e⟩

theorem VCres.mono {P : Program} {R : Rest} {K K' : Ending → List Assn → Prop} (hk : ∀ e L, K e L → K' e L) {r : Result Next} (h : VCres P R K r) : VCres P R K' r := by
  cases r with
  | ok n w =>
    cases n with
    | value v => obtain ⟨L, o, k⟩ := h; exact ⟨L, o, hk _ _ k⟩
    | skip => obtain ⟨L, o, k⟩ := h; exact ⟨L, o, hk _ _ k⟩
    | enter f args => exact Calls.mono h fun e w ⟨L, o, k⟩ => ⟨L, o, hk _ _ k⟩
    | row r args => exact Rows.mono h fun e w ⟨L, o, k⟩ => ⟨L, o, hk _ _ k⟩
    | round l f tmps assign body => exact RoundIn.mono h fun e w ⟨L, o, k⟩ => ⟨L, o, hk _ _ k⟩
    | _ => exact h.elim
  | halt x w =>
    cases x with
    | panic v => obtain ⟨L, o, k⟩ := h; exact ⟨L, o, hk _ _ k⟩
    | _ => exact h.elim

theorem x_ent {P : Program} {x : Eff} {L L' : List Assn} {K : Ending → List Assn → Prop} (h : Ent L L') (k : VC P x L' K) : VC P x L K :=
  ⟨fun w R o => k.out w R (h w R o)⟩
/-- What is owned may be taken apart: a case for each way it can be. -/
theorem x_exi {P : Program} {x : Eff} {L : List Assn} {K : Ending → List Assn → Prop} {ι : Type} {L' : ι → List Assn} {φ : ι → Prop} (h : ∀ w R, Own w L R → ∃ i, φ i ∧ Own w (L' i) R)
    (k : ∀ i, φ i → VC P x (L' i) K) : VC P x L K :=
  ⟨fun w R o => let ⟨i, hi, o'⟩ := h w R o; (k i hi).out w R o'⟩
/-- A fact that what is owned tells. -/
theorem x_know {P : Program} {x : Eff} {L : List Assn} {K : Ending → List Assn → Prop} {φ : Prop} (h : ∀ w R, Own w L R → φ) (k : φ → VC P x L K) : VC P x L K :=
  ⟨fun w R o => (k (h w R o)).out w R o⟩

theorem Good.ent {ro : Option Nat} {R : Rest} {n : Nat} {env : Env} {L L' : List Assn} {a : Act} {w : World} (h : Ent L L') (g : Good ro R n env L a w) : Good ro R n env L' a w :=
  let ⟨ms, R1, f, o, b, r⟩ := g
  ⟨ms, R1, f, h w R1 o, b, r⟩
theorem c_ent {P : Program} {T : Tab} {n : Nat} {c : Code} {env : Env} {L L' : List Assn} {X : Exit → Env → List Assn → Prop} (h : Ent L L') (k : CodeVC P T n c env L' X) : CodeVC P T n c env L X :=
  ⟨fun ro R a w g => k.out ro R a w (g.ent h)⟩
theorem c_exi {P : Program} {T : Tab} {n : Nat} {c : Code} {env : Env} {L : List Assn} {X : Exit → Env → List Assn → Prop} {ι : Type} {L' : ι → List Assn} {φ : ι → Prop} (h : ∀ w R, Own w L R → ∃ i, φ i ∧ Own w (L' i) R)
    (k : ∀ i, φ i → CodeVC P T n c env (L' i) X) : CodeVC P T n c env L X :=
  ⟨fun ro R a w ⟨ms, R1, f, o, b, r⟩ => let ⟨i, hi, o'⟩ := h w R1 o; (k i hi).out ro R a w ⟨ms, R1, f, o', b, r⟩⟩
theorem c_know {P : Program} {T : Tab} {n : Nat} {c : Code} {env : Env} {L : List Assn} {X : Exit → Env → List Assn → Prop} {φ : Prop} (h : ∀ w R, Own w L R → φ) (k : φ → CodeVC P T n c env L X) : CodeVC P T n c env L X :=
  ⟨fun ro R a w ⟨ms, R1, f, o, b, r⟩ => (k (h w R1 o)).out ro R a w ⟨ms, R1, f, o, b, r⟩⟩

/-! ### Picking an assertion out -/

class Take (A : Assn) (L : List Assn) (L' : outParam (List Assn)) : Prop where
  out : Ent L (A :: L')
class Pers (A : Assn) : Prop where
  out : ∀ F h, A.holds F h → h = Hp.emp

instance (priority := 100) Take.there {A B : Assn} {L L' : List Assn} [t : Take A L L'] : Take A (B :: L) (B :: L') := ⟨(Ent.cons B t.out).trans (Ent.swap B A L')⟩
instance (priority := 200) Take.here {A : Assn} {L : List Assn} : Take A (A :: L) L := ⟨Ent.refl _⟩
instance (priority := 300) Take.pers {A : Assn} {L : List Assn} [p : Pers A] : Take A (A :: L) (A :: L) := ⟨Ent.dup p.out L⟩
instance (priority := 400) Take.nil {A : Assn} {L L' : List Assn} [t : Take A L L'] : Take A ([] ++ L) L' := ⟨t.out⟩
instance (priority := 400) Take.app {A B : Assn} {M L L' : List Assn} [t : Take A (B :: (M ++ L)) L'] : Take A ((B :: M) ++ L) L' := ⟨t.out⟩

/-- All of a list, out of another. -/
class Takes (M : List Assn) (L : List Assn) (L' : outParam (List Assn)) : Prop where
  out : Ent L (M ++ L')
instance Takes.nil {L : List Assn} : Takes [] L L := ⟨Ent.refl _⟩
instance Takes.cons {A : Assn} {M L L1 L2 : List Assn} [t : Take A L L1] [s : Takes M L1 L2] : Takes (A :: M) L L2 := ⟨t.out.trans (Ent.cons A s.out)⟩

instance Takes.appn {M L L' : List Assn} [t : Takes M L L'] : Takes ([] ++ M) L L' := ⟨t.out⟩
instance Takes.app {A : Assn} {M N L L' : List Assn} [t : Takes (A :: (M ++ N)) L L'] : Takes ((A :: M) ++ N) L L' := ⟨t.out⟩

theorem Takes.ent {M L L' : List Assn} [t : Takes M L L'] : Ent L M := by
  intro w R o
  have := t.out w R o
  -- drop what is left
  have key : ∀ M : List Assn, Ent (M ++ L') M := by
    intro M
    induction M with
    | nil => exact Ent.nil _
    | cons A M ih => exact Ent.cons A ih
  exact key M w R this

class TakeObj (b : Nat) (L : List Assn) (o : outParam Obj) (L' : outParam (List Assn)) : Prop where
  out : Ent L (obj b o :: L')
instance (priority := 100) TakeObj.there {b : Nat} {B : Assn} {L L' : List Assn} {o : Obj} [t : TakeObj b L o L'] : TakeObj b (B :: L) o (B :: L') := ⟨(Ent.cons B t.out).trans (Ent.swap B _ L')⟩
instance (priority := 200) TakeObj.here {b : Nat} {L : List Assn} {o : Obj} : TakeObj b (obj b o :: L) o L := ⟨Ent.refl _⟩
instance (priority := 400) TakeObj.nil {b : Nat} {L L' : List Assn} {o : Obj} [t : TakeObj b L o L'] : TakeObj b ([] ++ L) o L' := ⟨t.out⟩
instance (priority := 400) TakeObj.app {b : Nat} {B : Assn} {M L L' : List Assn} {o : Obj} [t : TakeObj b (B :: (M ++ L)) o L'] : TakeObj b ((B :: M) ++ L) o L' := ⟨t.out⟩

class TakePts (b : Nat) (L : List Assn) (e : outParam TypeId) (cs : outParam (List Value)) (L' : outParam (List Assn)) : Prop where
  out : Ent L (pts b e cs :: L')
instance TakePts.mk' {b : Nat} {L L' : List Assn} {e : TypeId} {cs : List Value} [t : TakeObj b L (.cells cs.toArray e (0, 0)) L'] : TakePts b L e cs L' := ⟨t.out⟩
instance (priority := 2000) TakePts.there {b : Nat} {B : Assn} {L L' : List Assn} {e : TypeId} {cs : List Value} [t : TakePts b L e cs L'] : TakePts b (B :: L) e cs (B :: L') := ⟨(Ent.cons B t.out).trans (Ent.swap B _ L')⟩
instance (priority := 3000) TakePts.here {b : Nat} {L : List Assn} {e : TypeId} {cs : List Value} : TakePts b (pts b e cs :: L) e cs L := ⟨Ent.refl _⟩
instance (priority := 4000) TakePts.nil {b : Nat} {L L' : List Assn} {e : TypeId} {cs : List Value} [t : TakePts b L e cs L'] : TakePts b ([] ++ L) e cs L' := ⟨t.out⟩
instance (priority := 4000) TakePts.app {b : Nat} {B : Assn} {M L L' : List Assn} {e : TypeId} {cs : List Value} [t : TakePts b (B :: (M ++ L)) e cs L'] : TakePts b ((B :: M) ++ L) e cs L' := ⟨t.out⟩

/-! ### Tests and sums -/

theorem br {b : Bool} {f : Bool → Prop} {S : Prop} (h1 : b = true → f true) (h2 : b = false → f false) : Br b f S := ⟨by cases b <;> simp_all⟩
theorem brt {b : Bool} {f : Bool → Prop} {S : Prop} (h : b = true) (h1 : f true) : Br b f S := ⟨.inl (by rw [h]; exact h1)⟩
theorem brf {b : Bool} {f : Bool → Prop} {S : Prop} (h : b = false) (h1 : f false) : Br b f S := ⟨.inl (by rw [h]; exact h1)⟩
theorem brd {p : Prop} [Decidable p] {f : Bool → Prop} {S : Prop} (h1 : p → f true) (h2 : ¬ p → f false) : Br (decide p) f S :=
  br (fun h => h1 (of_decide_eq_true h)) (fun h => h2 (of_decide_eq_false h))
theorem bry {p : Prop} [Decidable p] {f : Bool → Prop} {S : Prop} (h : p) (h1 : f true) : Br (decide p) f S := brt (decide_eq_true h) h1
theorem brn {p : Prop} [Decidable p] {f : Bool → Prop} {S : Prop} (h : ¬ p) (h1 : f false) : Br (decide p) f S := brf (decide_eq_false h) h1
/-- `==` on numbers. -/
theorem brq {m n : Int} {f : Bool → Prop} {S : Prop} (h1 : m = n → f true) (h2 : m ≠ n → f false) : Br (m == n) f S :=
  br (fun h => h1 (by simpa using h)) (fun h => h2 (by simpa using h))
theorem brqy {m n : Int} {f : Bool → Prop} {S : Prop} (h : m = n) (h1 : f true) : Br (m == n) f S := brt (by simpa using h) h1
theorem brqn {m n : Int} {f : Bool → Prop} {S : Prop} (h : m ≠ n) (h1 : f false) : Br (m == n) f S := brf (by simpa using h) h1
/-- `!=` on numbers: the first way is that they differ. -/
theorem bru {m n : Int} {f : Bool → Prop} {S : Prop} (h1 : m ≠ n → f true) (h2 : m = n → f false) : Br (m != n) f S :=
  br (fun h => h1 (by simpa using h)) (fun h => h2 (by simpa using h))
theorem bruy {m n : Int} {f : Bool → Prop} {S : Prop} (h : m ≠ n) (h1 : f true) : Br (m != n) f S := brt (by simpa using h) h1
theorem brun {m n : Int} {f : Bool → Prop} {S : Prop} (h : m = n) (h1 : f false) : Br (m != n) f S := brf (by simpa using h) h1

theorem ar {k : IntKind} {n : Int} {K : SV → Prop} (h : K (.v (.int k (k.wrap n)))) : Ar k n K := ⟨h⟩
theorem are {k : IntKind} {n m : Int} {K : SV → Prop} (h : k.wrap n = m) (h1 : K (.v (.int k m))) : Ar k n K := ⟨by rw [h]; exact h1⟩
theorem wrap64_in {n : Int} (h : -9223372036854775808 ≤ n ∧ n ≤ 9223372036854775807) : IntKind.i64.wrap n = n := by
  rw [IntKind.wrap_i64]; omega
theorem ari {n : Int} {K : SV → Prop} (h : -9223372036854775808 ≤ n ∧ n ≤ 9223372036854775807) (h1 : K (.v (.int .i64 n))) : Ar .i64 n K := are (wrap64_in h) h1
/-- The same, with the number told anew. -/
theorem arj {n m : Int} {K : SV → Prop} (e : n = m) (h : -9223372036854775808 ≤ m ∧ m ≤ 9223372036854775807) (h1 : K (.v (.int .i64 m))) : Ar .i64 n K := e ▸ ari (e ▸ h) (e ▸ h1)
theorem wrapu8_in {n : Int} (h : 0 ≤ n ∧ n < 256) : IntKind.u8.wrap n = n := by
  show n % 256 = n
  omega
theorem wrapu32_in {n : Int} (h : 0 ≤ n ∧ n < 4294967296) : IntKind.u32.wrap n = n := by
  show n % 4294967296 = n
  omega
theorem wrapu64_in {n : Int} (h : 0 ≤ n ∧ n < 18446744073709551616) : IntKind.u64.wrap n = n := by
  show n % 18446744073709551616 = n
  omega
theorem aru {n : Int} {K : SV → Prop} (h : 0 ≤ n ∧ n < 18446744073709551616) (h1 : K (.v (.int .u64 n))) : Ar .u64 n K := are (wrapu64_in h) h1
theorem arw {n : Int} {K : SV → Prop} (h : 0 ≤ n ∧ n < 4294967296) (h1 : K (.v (.int .u32 n))) : Ar .u32 n K := are (wrapu32_in h) h1
theorem arb {n : Int} {K : SV → Prop} (h : 0 ≤ n ∧ n < 256) (h1 : K (.v (.int .u8 n))) : Ar .u8 n K := are (wrapu8_in h) h1

/-! ### Blocks of cells -/

def one (T : Tab) (t : Nat) : Bool := match tk T t with
  | some i => !(Nat.beq i.kind 6 || Nat.beq i.kind 7)
  | none => false
def many (T : Tab) (t : Nat) : Nat := match tk T t with
  | some i => bif Nat.beq i.kind 6 || Nat.beq i.kind 7 then i.size else 0
  | none => 0

theorem isAgg_run {P : Program} {t : Nat} {i : TyI} (h : TyOK P t i) (w : World) : (isAgg t).run P w = .ok (Nat.beq i.kind 6 || Nat.beq i.kind 7) w := by
  obtain ⟨d, hd, h1, -⟩ := h.desc
  rw [← h1]
  unfold isAgg
  simp only [Sem.run_bind, underlying_run hd, Result.andThen_ok]
  cases d <;> rfl

theorem sizeOf_run {P : Program} {t : Nat} {i : TyI} (h : TyOK P t i) (w : World) : (sizeOf t).run P w = .ok i.size w := by
  obtain ⟨x, hx, h1, -⟩ := h.info
  simp [sizeOf, typeInfo_run hx, h1]

theorem one_run {P : Program} {T : Tab} (hT : TabOK P T) {t : Nat} (h : one T t = true) (w : World) : (isAgg t).run P w = .ok false w := by
  unfold one at h
  split at h
  · rename_i i hi
    rw [isAgg_run (hT t i hi)]
    have : (Nat.beq i.kind 6 || Nat.beq i.kind 7) = false := by simpa using h
    rw [this]
  · cases h

theorem many_run {P : Program} {T : Tab} (hT : TabOK P T) {t n : Nat} (h : many T t = n + 1) (w : World) : (isAgg t).run P w = .ok true w ∧ (sizeOf t).run P w = .ok (n + 1) w := by
  unfold many at h
  split at h
  · rename_i i hi
    cases hb : (Nat.beq i.kind 6 || Nat.beq i.kind 7) with
    | true =>
      rw [hb] at h
      simp only [cond_true] at h
      rw [isAgg_run (hT t i hi), sizeOf_run (hT t i hi), hb, h]
      exact ⟨rfl, rfl⟩
    | false => rw [hb] at h; simp at h
  · cases h

theorem cell_of {w : World} {b : Nat} {arr : Array Value} {e : TypeId} {fz : Nat × Nat} (h : w.heap[b]? = some (.cells arr e fz)) (off : Nat) : w.cell? ⟨b, off, none⟩ = arr[off]? := by
  simp [World.cell?, h]

theorem add_at (b off k : Nat) : (⟨b, off, none⟩ : Addr).add k = ⟨b, off + k, none⟩ := by
  unfold Addr.add; split <;> simp_all

theorem load_one {P : Program} {T : Tab} (hT : TabOK P T) {t : Nat} (h : one T t = true) {w : World} {a : Addr} {v : Value} (hc : w.cell? a = some v) : (loadVar t a).run P w = .ok v w := by
  simp [loadVar, one_run hT h, hc]

theorem load_many {P : Program} {T : Tab} (hT : TabOK P T) {t n : Nat} (h : many T t = n + 1) {w : World} {a : Addr} {cs : List Value} (hl : cs.length = n + 1) (hc : ∀ j v, cs[j]? = some v → w.cell? (a.add j) = some v) :
    (loadVar t a).run P w = .ok (.agg cs.toArray) w := by
  obtain ⟨h1, h2⟩ := many_run hT h w
  have := run_loadCells_list (P := P) w a cs hc
  rw [hl] at this
  simp [loadVar, h1, h2, this]

theorem loadAt_run {P : Program} {t : TypeId} {a : Addr} {w : World} {v : Value} (h : (loadVar t a).run P w = .ok v w) : (Eff.next (.load t a)).run P w = .ok (.value v) w := by
  simp [Eff.next, Instr.loadAt, Instr.sureAddr, h]

/-- A load of one cell out of an owned block. -/
theorem xld {P : Program} {T : Tab} [c : TabC P T] {t : TypeId} {b off : Nat} {L L' : List Assn} {e : TypeId} {cs : List Value} {K : Ending → List Assn → Prop} {v : Value} [t' : TakePts b L e cs L']
    (h1 : one T t = true) (h2 : cs[off]? = some v) (k : K (.returned v) L) : VC P (.load t ⟨b, off, none⟩) L K := by
  refine ⟨fun w R o => ?_⟩
  have hb := (t'.out w R o).of_obj
  rw [loadAt_run (load_one c.ok h1 (v := v) (by rw [cell_of hb]; simpa using h2))]
  exact ⟨L, o, k⟩

/-- A load of a struct or an array. -/
theorem xlds {P : Program} {T : Tab} [c : TabC P T] {t n : TypeId} {b off : Nat} {L L' : List Assn} {e : TypeId} {cs vs : List Value} {K : Ending → List Assn → Prop} [t' : TakePts b L e cs L']
    (h1 : many T t = n + 1) (h2 : (cs.drop off).take (n + 1) = vs) (h3 : vs.length = n + 1) (k : K (.returned (.agg vs.toArray)) L) : VC P (.load t ⟨b, off, none⟩) L K := by
  refine ⟨fun w R o => ?_⟩
  have hb := (t'.out w R o).of_obj
  rw [loadAt_run (load_many c.ok h1 h3 fun j v hj => ?_)]
  · exact ⟨L, o, k⟩
  · rw [add_at, cell_of hb]
    subst h2
    rw [List.getElem?_take] at hj
    split at hj
    · rw [List.getElem?_drop] at hj; simpa using hj
    · cases hj

/-- Cells exchanged from a place on. -/
class Upd (cs : List Value) (off : Nat) (vs : List Value) (cs' : outParam (List Value)) : Prop where
  out : cs.take off ++ vs ++ cs.drop (off + vs.length) = cs' ∧ off + vs.length ≤ cs.length
instance (priority := 100) Upd.skip {c : Value} {cs : List Value} {n : Nat} {vs cs' : List Value} [u : Upd cs n vs cs'] : Upd (c :: cs) (n + 1) vs (c :: cs') := ⟨by
  refine ⟨?_, by have := u.out.2; simp; omega⟩
  rw [← u.out.1]
  simp [Nat.add_right_comm]⟩
instance (priority := 200) Upd.done {cs : List Value} : Upd cs 0 [] cs := ⟨by simp⟩
instance (priority := 300) Upd.put {c v : Value} {cs vs cs' : List Value} [u : Upd cs 0 vs cs'] : Upd (c :: cs) 0 (v :: vs) (v :: cs') := ⟨by
  have := u.out
  refine ⟨?_, by simp at this ⊢; omega⟩
  rw [← this.1]
  simp⟩

def okCell : Value → Bool
  | .agg _ => false
  | .tuple _ => false
  | _ => true
def okCells : List Value → Bool
  | [] => true
  | v :: vs => bif okCell v then okCells vs else false
theorem okCells_mem {vs : List Value} (h : okCells vs = true) : ∀ v ∈ vs, v.oneCell' = true := by
  induction vs with
  | nil => intro v m; cases m
  | cons u us ih =>
    unfold okCells at h
    cases hu : okCell u with
    | false => simp [hu] at h
    | true =>
      simp only [hu, cond_true] at h
      intro v m
      cases m with
      | head => cases u <;> first | rfl | (simp [okCell] at hu)
      | tail _ m => exact ih h v m

def cellsL : Value → List Value
  | .agg cs => cs.toList
  | v => [v]
theorem cellsL_eq (v : Value) : v.cells.toList = cellsL v := by cases v <;> rfl

theorem store_run {P : Program} {t : Nat} {i : TyI} (ht : TyOK P t i) {w : World} {b off : Nat} {arr : Array Value} {e : TypeId} (hb : w.heap[b]? = some (.cells arr e (0, 0))) {v : Value}
    (hs : (cellsL v).length = i.size) (hfit : off + (cellsL v).length ≤ arr.size) (h1 : ∀ u ∈ cellsL v, u.oneCell' = true) :
    (Eff.next (.store t ⟨b, off, none⟩ v)).run P w = .ok .skip (w.setRow b (arr.toList.take off ++ cellsL v ++ arr.toList.drop (off + (cellsL v).length)).toArray) := by
  have hsz : v.cells.size = i.size := by rw [← hs, ← cellsL_eq, Array.length_toList]
  have := run_storeCells_at P b off e (cellsL v) 0 arr w hb (by simpa using hfit) h1
  simp only [Nat.add_zero] at this
  simp [Eff.next, Instr.storeAt, Instr.sureAddr, storeVar, sizeOf_run ht, hsz, cellsL_eq, this]

/-- A store into an owned block. -/
theorem xsts {P : Program} {T : Tab} [c : TabC P T] {t : TypeId} {i : TyI} {b off : Nat} {v : Value} {L L' : List Assn} {e : TypeId} {cs cs' : List Value} {K : Ending → List Assn → Prop} [t' : TakePts b L e cs L']
    [u : Upd cs off (cellsL v) cs'] (h1 : tk T t = some i) (h2 : (cellsL v).length = i.size) (h3 : okCells (cellsL v) = true) (k : K (.returned undef) (pts b e cs' :: L')) : VC P (.store t ⟨b, off, none⟩ v) L K := by
  refine ⟨fun w R o => ?_⟩
  have o' := t'.out w R o
  have hb := o'.of_obj
  rw [store_run (c.ok t i h1) hb h2 (by simpa using u.out.2) (okCells_mem h3)]
  refine ⟨_, ?_, k⟩
  have hnew := setRow_heap w b cs.toArray (cs.toArray.toList.take off ++ cellsL v ++ cs.toArray.toList.drop (off + (cellsL v).length)).toArray e (0, 0) hb
  have hu := u.out.1
  simp only [] at hnew
  rw [hu] at hnew
  exact o'.write (o' := .cells cs'.toArray e (0, 0)) (by simpa [hu] using hnew) (fun c hc => setRow_other w b c _ hc) rfl rfl rfl

/-- A store of one cell. -/
theorem xst {P : Program} {T : Tab} [c : TabC P T] {t : TypeId} {i : TyI} {b off : Nat} {v : Value} {L L' : List Assn} {e : TypeId} {cs cs' : List Value} {K : Ending → List Assn → Prop} [t' : TakePts b L e cs L']
    [u : Upd cs off [v] cs'] (h1 : tk T t = some i) (h2 : Nat.beq i.size 1 = true) (h3 : okCell v = true) (k : K (.returned undef) (pts b e cs' :: L')) : VC P (.store t ⟨b, off, none⟩ v) L K := by
  have hv : cellsL v = [v] := by cases v <;> first | rfl | (simp [okCell] at h3)
  have : Upd cs off (cellsL v) cs' := by rw [hv]; exact u
  exact xsts h1 (by rw [hv]; exact (Nat.eq_of_beq_eq_true h2).symm) (by rw [hv]; simp [okCells, h3]) k

/-- A new block. -/
theorem xnew {P : Program} {t : TypeId} {cs : List Value} {L : List Assn} {K : Ending → List Assn → Prop} (k : ∀ b, K (.returned (.pointer (some ⟨b, 0, none⟩))) (pts b t cs :: L)) : VC P (.new t cs) L K := by
  refine ⟨fun w R o => ?_⟩
  have : (Eff.next (.new t cs)).run P w = .ok (.value (.pointer (some ⟨w.heap.size, 0, none⟩))) (w.alloc (.cells cs.toArray t (0, 0))) := by
    simp [Eff.next, newRow]
  rw [this]
  exact ⟨_, o.alloc _, k _⟩

/-- A new block, its cells written out. -/
theorem xnewq {P : Program} {t : TypeId} {cs : List Value} {L : List Assn} {K : Ending → List Assn → Prop} (cs' : List Value) (h : cs = cs') (k : ∀ b, K (.returned (.pointer (some ⟨b, 0, none⟩))) (pts b t cs' :: L)) : VC P (.new t cs) L K :=
  h ▸ xnew (h ▸ k)

/-! ### Calls -/

theorem xcall {P : Program} {f : FuncId} {args : List Value} {L M L' : List Assn} {Q K : Ending → List Assn → Prop} (h : FnSpec P f args M Q) [t : Takes M L L']
    (k : ∀ e N, Q e N → K e (N ++ L')) : VC P (.call f args) L K := by
  refine ⟨fun w R o => ?_⟩
  show VCres P R K ((callFunc f args.toArray).run P w)
  rw [h.can]
  obtain ⟨R', o1, back⟩ := (t.out w R o).frame
  exact (h.out w R' o1).mono fun e w' ⟨N, o2, q⟩ => ⟨_, back w' N o2, k e N q⟩

/-- A contract's end: a value. -/
def Ret (Q : Value → List Assn → Prop) (e : Ending) (L : List Assn) : Prop := ∃ v, e = .returned v ∧ Q v L

theorem xcallr {P : Program} {f : FuncId} {args : List Value} {L M L' : List Assn} {Q : Value → List Assn → Prop} {K : Ending → List Assn → Prop} (h : FnSpec P f args M (Ret Q)) [t : Takes M L L']
    (k : ∀ v N, Q v N → K (.returned v) (N ++ L')) : VC P (.call f args) L K :=
  xcall h fun _ N ⟨v, e', q⟩ => e' ▸ k v N q

/-- The end of a walk. -/
theorem xret {v : Value} {L M L' : List Assn} {Q : Value → List Assn → Prop} [t : Takes M L L'] (q : Q v M) : RetVC v L (Ret Q) := ⟨fun w R o => ⟨M, t.ent w R o, v, rfl, q⟩⟩
theorem r_ent {v : Value} {L M : List Assn} {Q : Ending → List Assn → Prop} (t : Ent L M) (q : RetVC v M Q) : RetVC v L Q := ⟨fun w R o => q.out w R (t w R o)⟩
theorem r_exi {v : Value} {L : List Assn} {Q : Ending → List Assn → Prop} {ι : Type} {L' : ι → List Assn} {φ : ι → Prop} (h : ∀ w R, Own w L R → ∃ i, φ i ∧ Own w (L' i) R) (k : ∀ i, φ i → RetVC v (L' i) Q) : RetVC v L Q :=
  ⟨fun w R o => let ⟨i, hi, o'⟩ := h w R o; (k i hi).out w R o'⟩
theorem r_know {v : Value} {L : List Assn} {Q : Ending → List Assn → Prop} {φ : Prop} (h : ∀ w R, Own w L R → φ) (k : φ → RetVC v L Q) : RetVC v L Q :=
  ⟨fun w R o => (k (h w R o)).out w R o⟩
theorem xret_eq {v v' : Value} {L : List Assn} {Q : Ending → List Assn → Prop} (e : v = v') (q : RetVC v' L Q) : RetVC v L Q := e ▸ q

theorem FnSpec.mono {P : Program} {f : FuncId} {args : List Value} {L : List Assn} {Q Q' : Ending → List Assn → Prop} (h : FnSpec P f args L Q) (m : ∀ e L, Q e L → Q' e L) : FnSpec P f args L Q' :=
  ⟨h.can, fun w R o => (h.out w R o).mono fun e _ ⟨L', o', q⟩ => ⟨L', o', m e L' q⟩⟩
theorem FnSpec.ent {P : Program} {f : FuncId} {args : List Value} {L M : List Assn} {Q : Ending → List Assn → Prop} (h : FnSpec P f args M Q) (t : Ent L M) : FnSpec P f args L Q :=
  ⟨h.can, fun w R o => h.out w R (t w R o)⟩

/-! ### Loops -/

def Sub : Env → Env → Prop
  | [], _ => True
  | (i, v) :: e, env => lk env i = some v ∧ Sub e env

theorem Fr.sub {a : Act} {n : Nat} {env e : Env} {ms : List Nat} (h : Fr a n env ms) (hs : Sub e env) : Fr a n e ms := by
  have key : ∀ i v, lk e i = some v → lk env i = some v := by
    induction e with
    | nil => intro i v hv; cases hv
    | cons p e ih =>
      obtain ⟨j, y⟩ := p
      intro i v hv
      unfold lk at hv
      cases hb : Nat.beq j i with
      | true =>
        simp only [hb, cond_true, Option.some.injEq] at hv
        have := Nat.eq_of_beq_eq_true hb
        subst this; subst hv
        exact hs.1
      | false =>
        simp only [hb, cond_false] at hv
        exact ih hs.2 i v hv
  exact ⟨h.size, h.le, fun i v hv hvd => h.get i v (key i v hv) hvd, h.defs⟩
theorem Good.sub {ro : Option Nat} {R : Rest} {n : Nat} {env e : Env} {L M : List Assn} {a : Act} {w : World} (g : Good ro R n env L a w) (hs : Sub e env) (h : Ent L M) : Good ro R n e M a w :=
  let ⟨ms, R1, f, o, b, r⟩ := g
  ⟨ms, R1, f.sub hs, h w R1 o, b, r⟩

def noD : Env → Bool
  | [] => true
  | (_, .d _) :: _ => false
  | _ :: e => noD e
def nodfs (env : Env) : Bool := match lk env dkey with
  | none => true
  | some (.d []) => true
  | _ => false
/-- Where one is at the head of a round: the state is that of an index. -/
structure At {ι : Type} (E : ι → Env) (M : ι → List Assn) (φ : ι → Prop) (i : ι) (env : Env) (L : List Assn) : Prop where
  sub : Sub (E i) env
  own : Ent L (M i)
  fact : φ i
  nod : nodfs env = true

theorem exists_least {p : Nat → Prop} (h : ∃ n, p n) : ∃ n, p n ∧ ∀ m, p m → n ≤ m := by
  obtain ⟨n, hn⟩ := h
  induction n using Nat.strongRecOn with
  | _ n ih =>
    by_cases hx : ∃ m, m < n ∧ p m
    · obtain ⟨m, hm, hp⟩ := hx; exact ih m hm hp
    · exact ⟨n, hn, fun m hp => Nat.le_of_not_lt fun hlt => hx ⟨m, hlt, hp⟩⟩
open Classical in
noncomputable def leastOf (p : Nat → Prop) : Nat := if h : ∃ n, p n then Classical.choose (exists_least h) else 0
theorem leastOf_spec {p : Nat → Prop} (h : ∃ n, p n) : p (leastOf p) := by
  unfold leastOf; rw [dif_pos h]; exact (Classical.choose_spec (exists_least h)).1
theorem leastOf_le {p : Nat → Prop} {m : Nat} (h : p m) : leastOf p ≤ m := by
  unfold leastOf; rw [dif_pos ⟨m, h⟩]; exact (Classical.choose_spec (exists_least ⟨m, h⟩)).2 m h

/-- A loop: an invariant with an index, and a measure that every round lowers. -/
theorem xloop {P : Program} {T : Tab} [c : TabC P T] {n : Nat} {body : Code} {env : Env} {L : List Assn} {X : Exit → Env → List Assn → Prop} {ι : Type} (E : ι → Env) (M : ι → List Assn) (φ : ι → Prop) (μ : ι → Nat) (i0 : ι)
    (h0 : At E M φ i0 env L) (_ : ∀ i, noD (E i) = true)
    (round : ∀ i, φ i → vc P T n body (E i) (M i) fun e env' L' => match e with
      | .normal => ∃ i', At E M φ i' env' L' ∧ μ i' < μ i
      | e => X e env' L') : CodeVC P T n (.loop body) env L X := by
  refine ⟨fun ro R a w g => ?_⟩
  -- the kit's rule wants a measure of the state: the least measure of an index that fits
  let Inv : Act → World → Nat → Prop := fun a w m => ∃ i, μ i = m ∧ φ i ∧ Good ro R n (E i) (M i) a w
  refine wpIn_loop (fun a w => ∃ m, Inv a w m) (fun a w => leastOf (Inv a w)) ⟨μ i0, i0, rfl, h0.fact, g.sub h0.sub h0.own⟩ ?_
  intro a w h
  obtain ⟨i, hi, hφ, hg⟩ := leastOf_spec h
  refine wpIn_mono (vc_sound c.ok (R := R) (ro := ro) body _ _ _ (round i hφ) a w hg) ?_
  rintro e a₁ w₁ ⟨env₁, L₁, hg₁, hq⟩
  cases e with
  | normal =>
    obtain ⟨i', hat, hlt⟩ := hq
    have hinv : Inv a₁ w₁ (μ i') := ⟨i', rfl, hat.fact, hg₁.sub hat.sub hat.own⟩
    exact ⟨⟨_, hinv⟩, Nat.lt_of_le_of_lt (leastOf_le hinv) (hi ▸ hlt)⟩
  | _ => exact ⟨env₁, L₁, hg₁, hq⟩

/-- Two ways that meet: where they do, the state is that of an index. -/
theorem xjoin {P : Program} {T : Tab} [c : TabC P T] {n : Nat} {x : Bool} {p q : Code} {env : Env} {L : List Assn} {X : Exit → Env → List Assn → Prop} {f : Bool → Prop} {ι : Type} (E : ι → Env) (M : ι → List Assn) (φ : ι → Prop)
    (_ : ∀ i, noD (E i) = true)
    (h1 : Br x (fun t => match t with
        | true => vc P T n p env L fun e env' L' => match e with
          | .normal => ∃ i, At E M φ i env' L'
          | e => X e env' L'
        | false => vc P T n q env L fun e env' L' => match e with
          | .normal => ∃ i, At E M φ i env' L'
          | e => X e env' L') (CodeVC P T n (bif x then p else q) env L fun e env' L' => match e with
          | .normal => ∃ i, At E M φ i env' L'
          | e => X e env' L'))
    (h2 : ∀ i, φ i → X .normal (E i) (M i)) : Br x f (CodeVC P T n (bif x then p else q) env L X) := by
  refine ⟨.inr ⟨fun ro R a w g => ?_⟩⟩
  have key : (bif x then p else q : Code).wpIn (wideR ro) 0 P (XP ro R n fun e env' L' => match e with
          | .normal => ∃ i, At E M φ i env' L'
          | e => X e env' L') a w := by
    rcases h1.out with h | h
    · cases x with
      | true => exact vc_sound c.ok (R := R) (ro := ro) p _ _ _ h a w g
      | false => exact vc_sound c.ok (R := R) (ro := ro) q _ _ _ h a w g
    · exact h.out ro R a w g
  refine wpIn_mono key ?_
  rintro e a₁ w₁ ⟨env₁, L₁, hg₁, hq⟩
  cases e with
  | normal =>
    obtain ⟨i, hat⟩ := hq
    exact ⟨E i, M i, hg₁.sub hat.sub hat.own, h2 i hat.fact⟩
  | _ => exact ⟨env₁, L₁, hg₁, hq⟩

end Go.X
