/- Lists of assertions that are not written out. A library; no statement of the seat is proved here. -/
import Derived.Test.YtbgjlghhcclooaaXBits
namespace Go.X
open Go

theorem Ent.skip (N : List Assn) {L M : List Assn} (h : Ent L M) : Ent (N ++ L) (N ++ M) := by
  induction N with
  | nil => exact h
  | cons A N ih => exact Ent.cons A ih
theorem Ent.front (N : List Assn) (A : Assn) (L : List Assn) : Ent (N ++ A :: L) (A :: (N ++ L)) := by
  induction N with
  | nil => exact Ent.refl _
  | cons B N ih => exact (Ent.cons B ih).trans (Ent.swap B A _)
theorem Ent.front' (N M L : List Assn) : Ent (N ++ (M ++ L)) (M ++ (N ++ L)) := by
  induction M with
  | nil => exact Ent.refl _
  | cons A M ih => exact (Ent.front N A _).trans (Ent.cons A ih)

instance (priority := 50) Take.over {A : Assn} {N L L' : List Assn} [t : Take A L L'] : Take A (N ++ L) (N ++ L') := ⟨(Ent.skip N t.out).trans (Ent.front N A L')⟩
instance (priority := 50) TakeObj.over {b : Nat} {N L L' : List Assn} {o : Obj} [t : TakeObj b L o L'] : TakeObj b (N ++ L) o (N ++ L') := ⟨(Ent.skip N t.out).trans (Ent.front N _ L')⟩
instance (priority := 50) TakePts.over {b : Nat} {N L L' : List Assn} {e : TypeId} {cs : List Value} [t : TakePts b L e cs L'] : TakePts b (N ++ L) e cs (N ++ L') := ⟨(Ent.skip N t.out).trans (Ent.front N _ L')⟩
instance (priority := 50) Takes.self {N L : List Assn} : Takes N (N ++ L) L := ⟨Ent.refl _⟩
instance (priority := 60) Takes.all {N : List Assn} : Takes N N [] := ⟨by rw [List.append_nil]; exact Ent.refl _⟩
instance (priority := 40) Takes.skip {N : List Assn} {A : Assn} {L L' : List Assn} [t : Takes N L L'] : Takes N (A :: L) (A :: L') := ⟨(Ent.cons A t.out).trans (by
  have : Ent ([A] ++ (N ++ L')) (N ++ ([A] ++ L')) := Ent.front' [A] N L'
  exact this)⟩
instance (priority := 30) Takes.over {N M L L' : List Assn} [t : Takes N L L'] : Takes N (M ++ L) (M ++ L') := ⟨(Ent.skip M t.out).trans (Ent.front' M N L')⟩

/-- A store of a struct or an array whose cells are written out. -/
theorem xstq {P : Program} {T : Tab} [c : TabC P T] {t : TypeId} {i : TyI} {b off : Nat} {v : Value} {L L' : List Assn} {e : TypeId} {cs cs' : List Value} {K : Ending → List Assn → Prop} [t' : TakePts b L e cs L']
    (vs : List Value) [u : Upd cs off vs cs'] (hv : cellsL v = vs) (h1 : tk T t = some i) (h2 : Nat.beq vs.length i.size = true) (h3 : okCells vs = true) (k : K (.returned undef) (pts b e cs' :: L')) : VC P (.store t ⟨b, off, none⟩ v) L K := by
  subst hv
  exact xsts h1 (Nat.eq_of_beq_eq_true h2) h3 k
end Go.X
