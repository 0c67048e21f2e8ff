/- A store to an element of a slice that is owned. A library; no statement of the seat is proved here. -/
import Derived.Test.YtbgjlghhcclooaaXBag
namespace Go.X
open Go

theorem flat_set {α : Type} {k : Nat} {enc : α → List Value} : ∀ {xs : List α}, (∀ x ∈ xs, fine k (enc x)) → ∀ {j f : Nat} {x x' : α} {v : Value}, xs[j]? = some x → f < k → enc x' = (enc x).set f v → (xs.set j x').flatMap enc = (xs.flatMap enc).set (j * k + f) v
  | [], _, j, f, x, x', v, hx, _, _ => by simp at hx
  | y :: ys, h, 0, f, x, x', v, hx, hf, he => by
    simp only [List.getElem?_cons_zero, Option.some.injEq] at hx
    subst hx
    have hk := (h y (.head _)).1
    rw [List.set_cons_zero, List.flatMap_cons, List.flatMap_cons, he, List.set_append_left _ _ (by omega)]
    simp
  | y :: ys, h, j + 1, f, x, x', v, hx, hf, he => by
    have hk := (h y (.head _)).1
    have ih := flat_set (xs := ys) (fun z m => h z (.tail _ m)) (j := j) (by simpa using hx) hf he
    rw [List.set_cons_succ, List.flatMap_cons, List.flatMap_cons, ih, List.set_append_right _ _ (by rw [hk, Nat.succ_mul]; omega)]
    congr 2
    rw [hk, Nat.succ_mul]; omega

theorem set_eq_take {α : Type} : ∀ (l : List α) (i : Nat) (v : α), i < l.length → l.take i ++ [v] ++ l.drop (i + 1) = l.set i v
  | [], _, _, h => by simp at h
  | x :: l, 0, v, _ => by simp
  | x :: l, i + 1, v, h => by
    have := set_eq_take l i v (by simpa using h)
    simp only [List.take_succ_cons, List.cons_append, List.drop_succ_cons, List.set_cons_succ]
    rw [this]

/-- A store of one cell into an element of a slice that is owned. -/
theorem xste {P : Program} {T : Tab} [c : TabC P T] {t : TypeId} {i : TyI} {α : Type} {oa : Option Addr} {e : TypeId} {k cap j f : Nat} {enc : α → List Value} {xs : List α} {v : Value} {L L' : List Assn} {K : Ending → List Assn → Prop}
    [r : TakeVof oa L α e k enc cap xs L'] (x x' : α) (h1 : tk T t = some i) (h2 : Nat.beq i.size 1 = true) (h3 : okCell v = true) (hx : xs[j]? = some x) (hf : Nat.blt f k = true) (hv : enc x' = (enc x).set f v) (zs : List α) (hz : xs.set j x' = zs)
    (q : K (.returned undef) (vof e k enc oa cap zs :: L')) : VC P (.store t (plus ((oget oa).add (j * k)) f) v) L K := by
  refine ⟨fun w R o => ?_⟩
  subst hz
  have hf' : f < k := by simpa using hf
  have o1 := r.out w R o
  have hjl : j < xs.length := (List.getElem?_eq_some_iff.1 hx).1
  obtain ⟨ii, hi, o'⟩ := Own.split (ι := Nat × Array Value) (φ := fun p => oa = some ⟨p.1, 0, none⟩ ∧ p.2.size = cap * k ∧ xs.length ≤ cap ∧ cap ≤ maxLen ∧ (∀ x ∈ xs, fine k (enc x)) ∧ ∀ m u, (xs.flatMap enc)[m]? = some u → p.2[m]? = some u)
    (B := fun p => obj p.1 (.cells p.2 e (0, 0))) (fun F h a => by
      rcases (show vofP _ _ _ _ _ _ _ from a) with ⟨h1, h2, h3, h4⟩ | ⟨b, arr, h1, h2, h3⟩
      · subst h2; simp at hx
      · exact ⟨(b, arr), ⟨h1, h3⟩, h2⟩) o1
  obtain ⟨b, arr⟩ := ii
  obtain ⟨rfl, g1, g2, g3, g4, g5⟩ := hi
  simp only at g1 g5 o'
  have hb := o'.of_obj
  have hlen := flat_length g4
  have hlt : j * k + f < arr.size := by
    rw [g1]
    have : (j + 1) * k ≤ cap * k := Nat.mul_le_mul_right k (by omega)
    rw [Nat.succ_mul] at this; omega
  have hcv : cellsL v = [v] := by cases v <;> first | rfl | (simp [okCell] at h3)
  have hadr : plus ((oget (some ⟨b, 0, none⟩)).add (j * k)) f = ⟨b, j * k + f, none⟩ := by
    rw [plus_eq, oget, Option.getD_some, add_at, add_at]; simp
  rw [hadr, store_run (c.ok t i h1) hb (by rw [hcv]; exact (Nat.eq_of_beq_eq_true h2).symm) (by rw [hcv]; simp; omega) (okCells_mem (by rw [hcv]; simp [okCells, h3]))]
  refine ⟨_, ?_, q⟩
  have hnew := setRow_heap w b arr (arr.toList.take (j * k + f) ++ cellsL v ++ arr.toList.drop (j * k + f + (cellsL v).length)).toArray e (0, 0) hb
  have hset : arr.toList.take (j * k + f) ++ cellsL v ++ arr.toList.drop (j * k + f + (cellsL v).length) = arr.toList.set (j * k + f) v := by
    rw [hcv]; exact set_eq_take _ _ _ (by simpa using hlt)
  rw [hset] at hnew ⊢
  have o2 := o'.write (o' := .cells (arr.toList.set (j * k + f) v).toArray e (0, 0)) hnew (fun c hc => setRow_other w b c _ hc) rfl rfl rfl
  refine Ent.head (A := obj b (.cells (arr.toList.set (j * k + f) v).toArray e (0, 0))) (B := vof e k enc (some ⟨b, 0, none⟩) cap (xs.set j x')) (fun F h g => Or.inr ⟨b, _, rfl, g, by simp [g1], by simpa using g2, g3, ?_, ?_⟩) _ _ _ o2
  · intro y m
    rcases List.mem_or_eq_of_mem_set m with m | rfl
    · exact g4 y m
    · have hxm := g4 x (List.mem_of_getElem? hx)
      refine ⟨by rw [hv, List.length_set]; exact hxm.1, ?_⟩
      rw [hv]
      have key : ∀ (l : List Value) (n : Nat), okCells l = true → okCells (l.set n v) = true := by
        intro l
        induction l with
        | nil => intro n h; simpa using h
        | cons a l ih =>
          intro n h
          unfold okCells at h
          cases ha : okCell a with
          | false => simp [ha] at h
          | true =>
            simp only [ha, cond_true] at h
            cases n with
            | zero => simp [okCells, h3, h]
            | succ n => simp [okCells, ha, ih n h]
      exact key _ _ hxm.2
  · intro m u hu
    rw [flat_set g4 hx hf' hv, List.getElem?_set] at hu
    rw [List.getElem?_toArray, List.getElem?_set]
    by_cases hm : j * k + f = m
    · rw [if_pos hm] at hu ⊢
      have hm' : j * k + f < arr.toList.length := by simpa using hlt
      rw [if_pos hm']
      split at hu
      · exact hu
      · cases hu
    · rw [if_neg hm] at hu ⊢
      simpa using g5 m u hu

theorem Ent.allS_set {ps : List BS} (i : Nat) (q : BS) (L : List Assn) : Ent (sof 1 eB q.oa q.cap q.xs :: allS ps :: L) (allS (ps.set i q) :: L) :=
  Ent.both (A := sof 1 eB q.oa q.cap q.xs) (B := allS ps) (C := allS (ps.set i q)) (fun _ _ h => Pers.out _ _ h) (fun F h k a b => ⟨b.1, fun y m => by
    rcases List.mem_or_eq_of_mem_set m with m | rfl
    · exact b.2 y m
    · have ha : sofP 1 eB y.oa y.cap y.xs F h := a
      have := ha.1; subst this; exact ha⟩) L
theorem cgetS {P : Program} {T : Tab} {n : Nat} {c : Code} {env : Env} {X : Exit → Env → List Assn → Prop} {L L' : List Assn} (ps : List BS) {i : Nat} {p : BS} (hp : ps[i]? = some p) [t : Take (allS ps) L L']
    (q : CodeVC P T n c env (sof 1 eB p.oa p.cap p.xs :: allS ps :: L') X) : CodeVC P T n c env L X := c_ent (t.out.trans (Ent.allS_get hp L')) q
end Go.X
