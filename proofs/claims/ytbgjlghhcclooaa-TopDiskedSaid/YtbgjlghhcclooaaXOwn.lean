/- Separation logic over the model's worlds: assertions that own blocks of memory, a shared frozen part, and the rest of memory that is left alone. A library; no statement of the seat is proved here. -/
import Derived.Calls
import Derived.Laws.World
import Derived.Laws.Tables
import Derived.Laws.Append
namespace Go.X
open Go

abbrev Hp := Nat → Option Obj
def Hp.le (F G : Hp) : Prop := ∀ b o, F b = some o → G b = some o
def Hp.Disj (h k : Hp) : Prop := ∀ b, h b = none ∨ k b = none
def Hp.emp : Hp := fun _ => none
def Hp.one (b : Nat) (o : Obj) : Hp := fun c => if c = b then some o else none
def Hp.or (h k : Hp) : Hp := fun b => (h b).or (k b)
def hpOf (w : World) : Hp := fun b => w.heap[b]?

theorem Hp.le.refl (F : Hp) : Hp.le F F := fun _ _ h => h
theorem Hp.le.trans {F G H : Hp} (h : Hp.le F G) (k : Hp.le G H) : Hp.le F H := fun b o e => k b o (h b o e)
theorem Hp.Disj.symm {h k : Hp} (d : Hp.Disj h k) : Hp.Disj k h := fun b => (d b).symm
theorem Hp.Disj.left {h k h' : Hp} (d : Hp.Disj h k) (l : Hp.le h' h) : Hp.Disj h' k := fun b => by
  rcases d b with e | e
  · left
    cases x : h' b with
    | none => rfl
    | some o => rw [l b o x] at e; cases e
  · exact .inr e
theorem Hp.Disj.right {h k k' : Hp} (d : Hp.Disj h k) (l : Hp.le k' k) : Hp.Disj h k' := (d.symm.left l).symm
theorem Hp.emp_disj (k : Hp) : Hp.Disj Hp.emp k := fun _ => .inl rfl
theorem Hp.emp_le (k : Hp) : Hp.le Hp.emp k := fun _ _ h => by cases h
theorem Hp.or_left {h k : Hp} : Hp.le h (Hp.or h k) := fun b o e => by simp [Hp.or, e]
theorem Hp.or_right {h k : Hp} (d : Hp.Disj h k) : Hp.le k (Hp.or h k) := fun b o e => by
  rcases d b with x | x
  · simp [Hp.or, x, e]
  · rw [e] at x; cases x
theorem Hp.or_le {h k g : Hp} (a : Hp.le h g) (b : Hp.le k g) : Hp.le (Hp.or h k) g := fun c o e => by
  unfold Hp.or at e
  cases x : h c with
  | none => rw [x] at e; exact b c o (by simpa using e)
  | some y => rw [x] at e; simp at e; subst e; exact a c _ x
theorem Hp.or_disj {h k g : Hp} (a : Hp.Disj h g) (b : Hp.Disj k g) : Hp.Disj (Hp.or h k) g := fun c => by
  rcases a c with x | x
  · rcases b c with y | y
    · left; simp [Hp.or, x, y]
    · exact .inr y
  · exact .inr x
theorem Hp.one_self (b : Nat) (o : Obj) : Hp.one b o b = some o := by simp [Hp.one]
theorem Hp.one_some {b c : Nat} {o x : Obj} (h : Hp.one b o c = some x) : c = b ∧ x = o := by
  unfold Hp.one at h; split at h
  · rename_i e; exact ⟨e, by cases h; rfl⟩
  · cases h
theorem Hp.one_le {b : Nat} {o : Obj} {F : Hp} (h : F b = some o) : Hp.le (Hp.one b o) F := fun c x e => by
  obtain ⟨rfl, rfl⟩ := Hp.one_some e; exact h
theorem Hp.one_disj {b : Nat} {o : Obj} {F : Hp} (h : F b = none) : Hp.Disj (Hp.one b o) F := fun c => by
  by_cases e : c = b
  · subst e; exact .inr h
  · left; simp [Hp.one, e]

/-- An assertion: what it says of the shared part F and of the part h that it owns. -/
structure Assn where
  holds : Hp → Hp → Prop
  mono : ∀ {F G h : Hp}, Hp.le F G → holds F h → holds G h

inductive Fits (F : Hp) : List Assn → List Hp → Prop
  | nil : Fits F [] []
  | cons {A L h hs} : A.holds F h → Fits F L hs → Fits F (A :: L) (h :: hs)

theorem Fits.mono {F G : Hp} (l : Hp.le F G) {L hs} (f : Fits F L hs) : Fits G L hs := by
  induction f with
  | nil => exact .nil
  | cons a _ ih => exact .cons (Assn.mono _ l a) ih

theorem Fits.append {F : Hp} {L M hs ks} (f : Fits F L hs) (g : Fits F M ks) : Fits F (L ++ M) (hs ++ ks) := by
  induction f with
  | nil => exact g
  | cons a _ ih => exact .cons a ih

theorem Fits.split {F : Hp} {L M xs} (f : Fits F (L ++ M) xs) : ∃ hs ks, xs = hs ++ ks ∧ Fits F L hs ∧ Fits F M ks := by
  induction L generalizing xs with
  | nil => exact ⟨[], xs, rfl, .nil, f⟩
  | cons A L ih =>
    cases f with
    | cons a f =>
      obtain ⟨hs, ks, rfl, p, q⟩ := ih f
      exact ⟨_ :: hs, ks, rfl, .cons a p, q⟩

structure Rest where
  sh : Hp
  pv : Hp
  os : Os
  tape : Nat → Question → Nat
  output : Array (Nat × ByteArray)

structure Own' (w : World) (L : List Assn) (R : Rest) (F : Hp) (hs : List Hp) : Prop where
  fits : Fits F L hs
  pair : hs.Pairwise Hp.Disj
  own : ∀ h ∈ hs, Hp.le h (hpOf w) ∧ Hp.Disj h F ∧ Hp.Disj h R.pv
  shr : Hp.le R.sh F ∧ Hp.le F (hpOf w) ∧ Hp.le R.pv (hpOf w) ∧ Hp.Disj F R.pv
  env : w.os = R.os ∧ w.tape = R.tape ∧ w.output = R.output

def Own (w : World) (L : List Assn) (R : Rest) : Prop := ∃ F hs, Own' w L R F hs

/-- Entailment, in any world. -/
def Ent (L M : List Assn) : Prop := ∀ w R, Own w L R → Own w M R
theorem Ent.refl (L : List Assn) : Ent L L := fun _ _ h => h
theorem Ent.trans {L M N : List Assn} (h : Ent L M) (k : Ent M N) : Ent L N := fun w R o => k w R (h w R o)

theorem Ent.drop (A : Assn) (L : List Assn) : Ent (A :: L) L := by
  rintro w R ⟨F, hs, f, p, o, s, e⟩
  cases f with
  | cons a f => exact ⟨F, _, f, (List.pairwise_cons.1 p).2, fun h m => o h (.tail _ m), s, e⟩

theorem Ent.nil (L : List Assn) : Ent L [] := by
  rintro w R ⟨F, hs, f, p, o, s, e⟩
  exact ⟨F, [], .nil, .nil, (fun h m => by cases m), s, e⟩

theorem Ent.swap (A B : Assn) (L : List Assn) : Ent (A :: B :: L) (B :: A :: L) := by
  rintro w R ⟨F, hs, f, p, o, s, e⟩
  cases f with
  | cons a f =>
    cases f with
    | cons b f =>
      rename_i h k hs
      rw [List.pairwise_cons, List.pairwise_cons] at p
      refine ⟨F, k :: h :: hs, .cons b (.cons a f), ?_, ?_, s, e⟩
      · rw [List.pairwise_cons, List.pairwise_cons]
        refine ⟨?_, ?_, p.2.2⟩
        · intro x m
          cases m with
          | head => exact (p.1 k (.head _)).symm
          | tail _ m => exact p.2.1 x m
        · intro x m; exact p.1 x (.tail _ m)
      · intro x m
        refine o x ?_
        simp only [List.mem_cons] at m ⊢
        rcases m with m | m | m
        · exact .inr (.inl m)
        · exact .inl m
        · exact .inr (.inr m)

/-- What one assertion says by itself may be changed. -/
theorem Ent.head {A B : Assn} (h : ∀ F k, A.holds F k → B.holds F k) (L : List Assn) : Ent (A :: L) (B :: L) := by
  rintro w R ⟨F, hs, f, p, o, s, e⟩
  cases f with
  | cons a f => exact ⟨F, _, .cons (h _ _ a) f, p, o, s, e⟩

theorem Ent.cons (A : Assn) {L M : List Assn} (h : Ent L M) : Ent (A :: L) (A :: M) := by
  rintro w R ⟨F, hs, f, p, o, s, e⟩
  cases f with
  | cons a f =>
    rename_i k ks
    rw [List.pairwise_cons] at p
    have ok := o k (.head _)
    -- the head goes into the rest's own part
    have dks : ∀ x ∈ ks, Hp.Disj x k := fun x m => (p.1 x m).symm
    obtain ⟨G, xs, f', p', o', s', e'⟩ := h w { R with sh := F, pv := Hp.or R.pv k } ⟨F, ks, f, p.2,
      fun x m => ⟨(o x (.tail _ m)).1, (o x (.tail _ m)).2.1, (Hp.or_disj (o x (.tail _ m)).2.2.symm (dks x m).symm).symm⟩,
      ⟨.refl _, s.2.1, Hp.or_le s.2.2.1 ok.1, (Hp.or_disj s.2.2.2.symm ok.2.1).symm⟩, e⟩
    refine ⟨G, k :: xs, .cons (A.mono s'.1 a) f', ?_, ?_, ⟨s.1.trans s'.1, s'.2.1, s.2.2.1, s'.2.2.2.right Hp.or_left⟩, e⟩
    · rw [List.pairwise_cons]
      exact ⟨fun x m => ((o' x m).2.2.right (Hp.or_right ok.2.2.symm)).symm, p'⟩
    · intro x m
      cases m with
      | head => exact ⟨ok.1, (s'.2.2.2.right (Hp.or_right ok.2.2.symm)).symm, ok.2.2⟩
      | tail _ m => exact ⟨(o' x m).1, (o' x m).2.1, (o' x m).2.2.right Hp.or_left⟩

/-- The frame: what a call is not handed stays. -/
theorem Own.frame {w : World} {L M : List Assn} {R : Rest} (h : Own w (L ++ M) R) :
    ∃ R', Own w L R' ∧ ∀ w' L', Own w' L' R' → Own w' (L' ++ M) R := by
  obtain ⟨F, xs, f, p, o, s, e⟩ := h
  obtain ⟨hs, ks, rfl, fl, fm⟩ := f.split
  rw [List.pairwise_append] at p
  obtain ⟨pl, pm, pc⟩ := p
  -- the union of the ks
  have key : ∀ (ks : List Hp) (Z : Hp), ks.Pairwise Hp.Disj → (∀ k ∈ ks, Hp.le k (hpOf w) ∧ Hp.Disj k Z) → Hp.le Z (hpOf w) →
      ∃ U : Hp, Hp.le Z U ∧ Hp.le U (hpOf w) ∧ (∀ k ∈ ks, Hp.le k U) ∧ ∀ x : Hp, Hp.Disj x Z → (∀ k ∈ ks, Hp.Disj x k) → Hp.Disj x U := by
    intro ks
    induction ks with
    | nil => intro Z _ _ hz; exact ⟨Z, .refl _, hz, (fun k m => by cases m), fun x d _ => d⟩
    | cons k ks ih =>
      intro Z pw hk hz
      rw [List.pairwise_cons] at pw
      obtain ⟨U, u1, u2, u3, u4⟩ := ih (Hp.or Z k) pw.2
        (fun q m => ⟨(hk q (.tail _ m)).1, (Hp.or_disj (hk q (.tail _ m)).2.symm (pw.1 q m)).symm⟩)
        (Hp.or_le hz (hk k (.head _)).1)
      refine ⟨U, Hp.or_left.trans u1, u2, ?_, ?_⟩
      · intro q m
        cases m with
        | head => exact (Hp.or_right (hk k (.head _)).2.symm).trans u1
        | tail _ m => exact u3 q m
      · intro x d dk
        exact u4 x (Hp.or_disj d.symm (dk k (.head _)).symm).symm (fun q m => dk q (.tail _ m))
  obtain ⟨U, u1, u2, u3, u4⟩ := key ks R.pv pm (fun k m => ⟨(o k (List.mem_append_right _ m)).1, (o k (List.mem_append_right _ m)).2.2⟩) s.2.2.1
  refine ⟨{ R with sh := F, pv := U }, ⟨F, hs, fl, pl, fun h m => ⟨(o h (List.mem_append_left _ m)).1, (o h (List.mem_append_left _ m)).2.1,
    u4 h (o h (List.mem_append_left _ m)).2.2 (fun k mk => pc h m k mk)⟩, ⟨.refl _, s.2.1, u2, ?_⟩, e⟩, ?_⟩
  · exact u4 F s.2.2.2 (fun k m => (o k (List.mem_append_right _ m)).2.1.symm)
  · rintro w' L' ⟨G, hs', f', p', o', s', e'⟩
    refine ⟨G, hs' ++ ks, f'.append (fm.mono s'.1), ?_, ?_, ⟨s.1.trans s'.1, s'.2.1, u1.trans s'.2.2.1, s'.2.2.2.right u1⟩, e'⟩
    · rw [List.pairwise_append]
      exact ⟨p', pm, fun h m k mk => (o' h m).2.2.right (u3 k mk)⟩
    · intro h m
      rcases List.mem_append.1 m with m | m
      · exact ⟨(o' h m).1, (o' h m).2.1, (o' h m).2.2.right u1⟩
      · exact ⟨(u3 h m).trans s'.2.2.1, (s'.2.2.2.right (u3 h m)).symm, (o h (List.mem_append_right _ m)).2.2⟩

/-- A block that is owned. -/
def obj (b : Nat) (o : Obj) : Assn := ⟨fun _ h => h = Hp.one b o, fun _ h => h⟩
/-- A block that is shared and stays. -/
def frz (b : Nat) (o : Obj) : Assn := ⟨fun F h => h = Hp.emp ∧ F b = some o, fun l h => ⟨h.1, l _ _ h.2⟩⟩
/-- A fact. -/
def fact (p : Prop) : Assn := ⟨fun _ h => h = Hp.emp ∧ p, fun _ h => h⟩

theorem Own.of_obj {w : World} {b : Nat} {o : Obj} {L : List Assn} {R : Rest} (h : Own w (obj b o :: L) R) : w.heap[b]? = some o := by
  obtain ⟨F, hs, f, p, q, s, e⟩ := h
  cases f with
  | cons a f =>
    cases a
    exact (q _ (.head _)).1 b o (Hp.one_self b o)
theorem Own.of_frz {w : World} {b : Nat} {o : Obj} {L : List Assn} {R : Rest} (h : Own w (frz b o :: L) R) : w.heap[b]? = some o := by
  obtain ⟨F, hs, f, p, q, s, e⟩ := h
  cases f with
  | cons a f => exact s.2.1 b o a.2
theorem Own.of_fact {w : World} {p : Prop} {L : List Assn} {R : Rest} (h : Own w (fact p :: L) R) : p := by
  obtain ⟨F, hs, f, _⟩ := h
  cases f with
  | cons a f => exact a.2

theorem Ent.freeze (b : Nat) (o : Obj) (L : List Assn) : Ent (obj b o :: L) (frz b o :: L) := by
  rintro w R ⟨F, hs, f, p, q, s, e⟩
  cases f with
  | cons a f =>
    rename_i k ks
    cases a
    rw [List.pairwise_cons] at p
    have qk := q _ (.head _)
    refine ⟨Hp.or F (Hp.one b o), Hp.emp :: ks, .cons ⟨rfl, Hp.or_right qk.2.1.symm _ _ (Hp.one_self b o)⟩ (f.mono Hp.or_left), ?_, ?_,
      ⟨s.1.trans Hp.or_left, Hp.or_le s.2.1 qk.1, s.2.2.1, Hp.or_disj s.2.2.2 qk.2.2⟩, e⟩
    · rw [List.pairwise_cons]; exact ⟨fun x _ => Hp.emp_disj x, p.2⟩
    · intro x m
      cases m with
      | head => exact ⟨Hp.emp_le _, Hp.emp_disj _, Hp.emp_disj _⟩
      | tail _ m => exact ⟨(q x (.tail _ m)).1, (Hp.or_disj (q x (.tail _ m)).2.1.symm (p.1 x m)).symm, (q x (.tail _ m)).2.2⟩

/-- An assertion that owns nothing may be had twice. -/
theorem Ent.dup {A : Assn} (h : ∀ F k, A.holds F k → k = Hp.emp) (L : List Assn) : Ent (A :: L) (A :: A :: L) := by
  rintro w R ⟨F, hs, f, p, q, s, e⟩
  cases f with
  | cons a f =>
    have := h _ _ a
    subst this
    refine ⟨F, Hp.emp :: Hp.emp :: _, .cons a (.cons a f), ?_, ?_, s, e⟩
    · rw [List.pairwise_cons]; exact ⟨fun x _ => Hp.emp_disj x, p⟩
    · intro x m
      cases m with
      | head => exact q _ (.head _)
      | tail _ m => exact q x m
theorem Ent.fact {p : Prop} (h : p) (L : List Assn) : Ent L (fact p :: L) := by
  rintro w R ⟨F, hs, f, pw, q, s, e⟩
  refine ⟨F, Hp.emp :: hs, .cons ⟨rfl, h⟩ f, ?_, ?_, s, e⟩
  · rw [List.pairwise_cons]; exact ⟨fun x _ => Hp.emp_disj x, pw⟩
  · intro x m
    cases m with
    | head => exact ⟨Hp.emp_le _, Hp.emp_disj _, Hp.emp_disj _⟩
    | tail _ m => exact q x m

theorem Own.draw {w : World} {L : List Assn} {R : Rest} (h : Own w L R) : Own w.drew L R := by
  obtain ⟨F, hs, f, p, q, s, e⟩ := h
  exact ⟨F, hs, f, p, q, s, e⟩

theorem hp_lt {w : World} {h : Hp} (l : Hp.le h (hpOf w)) {b : Nat} (hb : w.heap.size ≤ b) : h b = none := by
  cases x : h b with
  | none => rfl
  | some o =>
    have := l b o x
    simp [hpOf, Array.getElem?_eq_none hb] at this

theorem hp_alloc (w : World) (o : Obj) : Hp.le (hpOf w) (hpOf (w.alloc o)) := fun b x h => by
  have hlt : b < w.heap.size := by
    rcases Nat.lt_or_ge b w.heap.size with l | l
    · exact l
    · simp [hpOf, Array.getElem?_eq_none l] at h
  have hne : b ≠ w.heap.size := by omega
  show (w.heap.push o)[b]? = some x
  rw [Array.getElem?_push, if_neg hne]; exact h

theorem Own.alloc {w : World} {L : List Assn} {R : Rest} (h : Own w L R) (o : Obj) : Own (w.alloc o) (obj w.heap.size o :: L) R := by
  obtain ⟨F, hs, f, p, q, s, e⟩ := h
  refine ⟨F, Hp.one w.heap.size o :: hs, .cons rfl f, ?_, ?_, ⟨s.1, s.2.1.trans (hp_alloc w o), s.2.2.1.trans (hp_alloc w o), s.2.2.2⟩, e⟩
  · rw [List.pairwise_cons]
    exact ⟨fun x m => Hp.one_disj (hp_lt (q x m).1 (Nat.le_refl _)), p⟩
  · intro x m
    cases m with
    | head =>
      refine ⟨Hp.one_le ?_, Hp.one_disj (hp_lt s.2.1 (Nat.le_refl _)), Hp.one_disj (hp_lt s.2.2.1 (Nat.le_refl _))⟩
      show (w.heap.push o)[w.heap.size]? = some o
      simp
    | tail _ m => exact ⟨(q x m).1.trans (hp_alloc w o), (q x m).2⟩

/-- A world that differs in the owned block alone. -/
theorem Own.write {w w' : World} {b : Nat} {o o' : Obj} {L : List Assn} {R : Rest} (h : Own w (obj b o :: L) R)
    (hb : w'.heap[b]? = some o') (hother : ∀ c, c ≠ b → w'.heap[c]? = w.heap[c]?)
    (ho : w'.os = w.os) (ht : w'.tape = w.tape) (hq : w'.output = w.output) : Own w' (obj b o' :: L) R := by
  obtain ⟨F, hs, f, p, q, s, e⟩ := h
  cases f with
  | cons a f =>
    rename_i k ks
    cases a
    rw [List.pairwise_cons] at p
    have qk := q _ (.head _)
    have nb : ∀ {g : Hp}, Hp.Disj (Hp.one b o) g → g b = none := fun d => by
      rcases d b with x | x
      · rw [Hp.one_self] at x; cases x
      · exact x
    have keep : ∀ {g : Hp}, Hp.le g (hpOf w) → g b = none → Hp.le g (hpOf w') := fun {g} l n c x ex => by
      have hc : c ≠ b := by rintro rfl; rw [n] at ex; cases ex
      show w'.heap[c]? = some x
      rw [hother c hc]; exact l c x ex
    refine ⟨F, Hp.one b o' :: ks, .cons rfl f, ?_, ?_, ⟨s.1, keep s.2.1 (nb qk.2.1), keep s.2.2.1 (nb qk.2.2), s.2.2.2⟩, ⟨ho.trans e.1, ht.trans e.2.1, hq.trans e.2.2⟩⟩
    · rw [List.pairwise_cons]
      exact ⟨fun x m => Hp.one_disj (nb (p.1 x m)), p.2⟩
    · intro x m
      cases m with
      | head => exact ⟨Hp.one_le hb, Hp.one_disj (nb qk.2.1), Hp.one_disj (nb qk.2.2)⟩
      | tail _ m => exact ⟨keep (q x (.tail _ m)).1 (nb (p.1 x m)), (q x (.tail _ m)).2⟩

/-- A block of cells. -/
abbrev pts (b : Nat) (e : TypeId) (cs : List Value) : Assn := obj b (.cells cs.toArray e (0, 0))

end Go.X
