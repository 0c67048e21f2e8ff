/- Statements whose order Go leaves open: what only reads may be taken first, the rest in its order. A library; no statement of the seat is proved here. -/
import Derived.Test.YtbgjlghhcclooaaXMore2
import Derived.OrdersHeld
import Derived.OrdersIn
namespace Go.X
open Go

def isDefer : Op → Bool
  | .defer _ => true
  | _ => false

/-- What is asked of an operation's outcome, calls and rounds included. -/
def uponX (P : Program) (o : Oper) (a : Act) (next : Act → World → Prop) (Q : Exit → Act → World → Prop) : Result Next → Prop
  | .ok (.value v) w' => next (a.put o.dst v) w'
  | .ok .skip w' => next (a.put o.dst undef) w'
  | .ok (.enter f args) w' => Calls P f args w' fun
      | .returned v, w'' => next (a.put o.dst v) w''
      | .panicked chain, w'' => Q (.panic chain) a w''
      | .outgrown, _ => False
  | .ok (.row row args) w' => Rows P row args w' fun v w'' => next (a.put o.dst v) w''
  | .ok (.round l f tmps assign body) w' => RoundIn Fence.wide 0 P l f tmps assign body w' fun
      | .returned v, w'' => next (a.put o.dst v) w''
      | .panicked chain, w'' => Q (.panic chain) a w''
      | .outgrown, _ => False
  | .halt (.panic v) w' => Q (.panic [{ v, recovered := false }]) a w'
  | _ => False
def wpOpX (P : Program) (ops : Array Oper) (Q : Exit → Act → World → Prop) (i : Nat) (K : Act → World → Prop) (a : Act) (w : World) : Prop :=
  match ops[i]? with
  | none => K a w
  | some o => if Region.wanted o (yielded ops a.tmps) then uponX P o a K Q ((execOp a.eval o).run P w) else K (a.put o.dst undef) w

section
variable {P : Program} {ops : Array Oper} {Q : Exit → Act → World → Prop} {G : World → Prop} {keep : Nat → Bool}

theorem uponX_mono {o : Oper} {a : Act} {K K' : Act → World → Prop} (h : ∀ a w, K a w → K' a w) {r : Result Next} (hh : uponX P o a K Q r) : uponX P o a K' Q r := by
  cases r with
  | ok n w' =>
    cases n with
    | value v => exact h _ _ hh
    | skip => exact h _ _ hh
    | enter f args => exact Calls.mono hh fun e w'' q => by cases e <;> first | exact h _ _ q | exact q
    | row row args => exact Rows.mono hh fun v w'' q => h _ _ q
    | round l f tmps assign body => exact RoundIn.mono hh fun e w'' q => by cases e <;> first | exact h _ _ q | exact q
    | _ => exact hh.elim
  | halt x w' => cases x with
    | panic v => exact hh
    | _ => exact hh.elim
theorem wpOpX_mono {i : Nat} {K K' : Act → World → Prop} (h : ∀ a w, K a w → K' a w) {a : Act} {w : World} (hh : wpOpX P ops Q i K a w) : wpOpX P ops Q i K' a w := by
  unfold wpOpX at *
  split
  · rename_i hn; simp only [hn] at hh; exact h _ _ hh
  · rename_i o ho
    simp only [ho] at hh
    split
    · rename_i hw; rw [if_pos hw] at hh; exact uponX_mono h hh
    · rename_i hw; rw [if_neg hw] at hh; exact h _ _ hh

theorem wpOpX_putIf {S : World → Prop} {j : Nat} {oi oj : Oper} {v : Value} (hj : ops[j]? = some oj) (hap : oi.apart ops oj = true)
    (hsi : ∀ cs b, oi.op ≠ .select cs b) (hsj : ∀ cs b, oj.op ≠ .select cs b)
    (hQ : ∀ c a w, Q (.panic c) (a.put oi.dst v) w → Q (.panic c) a w) {K : Act → World → Prop} {a : Act} {w : World}
    (hy : YieldsIf P ops S oi v a) (h : wpOpX P ops Q j K (a.put oi.dst v) w) :
    wpOpX P ops Q j (fun a' w' => YieldsIf P ops S oi v a' ∧ K (a'.put oi.dst v) w') a w := by
  obtain ⟨h1, h2, h3⟩ := Oper.apart_spec hap
  have keep : ∀ (a : Act), YieldsIf P ops S oi v a → ∀ u, YieldsIf P ops S oi v (a.put oj.dst u) := fun a hy u =>
    hy.of_same (execOp_put oi hsi a oj.dst u h3) (wanted_put oi a oj.dst u h3)
  unfold wpOpX at *
  simp only [hj] at *
  rw [wanted_put oj a oi.dst v h1] at h
  split
  · rename_i hw
    simp only [hw, if_true] at h
    rw [execOp_put oj hsj a oi.dst v h1] at h
    generalize (execOp a.eval oj).run P w = r at *
    cases r with
    | ok n w' =>
      cases n with
      | value u => exact ⟨keep a hy _, by rw [← Act.put_comm a v _ h2]; exact h⟩
      | skip => exact ⟨keep a hy _, by rw [← Act.put_comm a v undef h2]; exact h⟩
      | enter f args =>
        refine Calls.mono h fun e w'' q => ?_
        cases e with
        | returned u => exact ⟨keep a hy _, by rw [← Act.put_comm a v _ h2]; exact q⟩
        | panicked c => exact hQ _ _ _ q
        | outgrown => exact q
      | row row args => exact Rows.mono h fun u w'' q => ⟨keep a hy _, by rw [← Act.put_comm a v _ h2]; exact q⟩
      | round l f tmps assign body =>
        refine RoundIn.mono h fun e w'' q => ?_
        cases e with
        | returned u => exact ⟨keep a hy _, by rw [← Act.put_comm a v _ h2]; exact q⟩
        | panicked c => exact hQ _ _ _ q
        | outgrown => exact q
      | _ => exact h.elim
    | halt x w' =>
      cases x with
      | panic u => exact hQ _ _ _ h
      | _ => exact h.elim
  · rename_i hw
    simp only [hw] at h
    exact ⟨keep a hy _, by rw [← Act.put_comm a v undef h2]; exact h⟩

theorem YieldsIf.wpOpX {S : World → Prop} {i : Nat} {o : Oper} {v : Value} {a : Act} (hi : ops[i]? = some o) (hy : YieldsIf P ops S o v a)
    {K : Act → World → Prop} {w : World} (hS : S w) (h : K (a.put o.dst v) w) : X.wpOpX P ops Q i K a w := by
  unfold X.wpOpX
  simp only [hi]
  rcases hy with ⟨hw, hv⟩ | ⟨hw, rfl⟩
  · simp only [hw, if_true, hv w hS, uponX]; exact h
  · simp only [hw, Bool.false_eq_true, if_false]; exact h

/-- Whatever comes up next; behind those that must keep G, G holds. -/
def wpAnyG (P : Program) (ops : Array Oper) (Q : Exit → Act → World → Prop) (G : World → Prop) (keep : Nat → Bool) : Nat → Array Bool → Act → World → Prop
  | 0, listed, a, w => Region.ready .any ops listed = [] ∧ Q .normal a w
  | fuel + 1, listed, a, w =>
    (Region.ready .any ops listed = [] → Q .normal a w) ∧
    ∀ i ∈ Region.ready .any ops listed, wpOpX P ops Q i (fun a' w' => (keep i = true → G w → G w') ∧ wpAnyG P ops Q G keep fuel (listed.setIfInBounds i true) a' w') a w

theorem uponX_in {o : Oper} {a : Act} {w : World} {ro : Option Nat} {next next' : Act → World → Prop} (hn : ∀ a w, next a w → next' a w) (hnd : isDefer o.op = false) (h : uponX P o a next Q ((execOp a.eval o).run P w)) : o.wpIn (wideR ro) 0 P a w next' Q := by
  refine ⟨fun _ _ => trivial, ?_⟩
  rw [Oper.semAt_eq _ _ _ (fun c e => by rw [e] at hnd; cases hnd)]
  generalize (execOp a.eval o).run P w = r at *
  cases r with
  | ok nx w' =>
    cases nx with
    | value v => exact hn _ _ h
    | skip => exact hn _ _ h
    | enter f args =>
      refine ⟨fun h => (by cases h), callsIn_wideR.2 (Calls.mono h fun e w'' q => ?_)⟩
      cases e <;> first | exact hn _ _ q | exact q | exact q.elim
    | row row args => exact ⟨(fun h => by cases h), rowsIn_of (Rows.mono h fun v w'' q => hn _ _ q)⟩
    | round l f tmps assign body =>
      refine ⟨fun h => (by cases h), ?_⟩
      have hm := RoundIn.mono (R' := fun e w'' => match e with
        | .returned v => next' (a.put o.dst v) w''
        | .panicked chain => Q (.panic chain) a w''
        | .outgrown => LetsOut Q) h (fun e w'' q => by cases e <;> first | exact hn _ _ q | exact q | exact q.elim)
      exact hm.mono fun e w'' q => by cases e <;> exact q
    | _ => exact h.elim
  | halt hh w' => cases hh with
    | panic v => exact h
    | _ => exact h.elim

theorem wpAnyG_in {ro : Option Nat} (hnd : (ops.toList.all fun o => !isDefer o.op) = true) :
    ∀ (fuel : Nat) (listed : Array Bool) (a : Act) (w : World), wpAnyG P ops Q G keep fuel listed a w → wpAnyIn (wideR ro) 0 P .any ops Q fuel listed a w
  | 0, _, _, _, h => h
  | fuel + 1, listed, a, w, h => by
    refine ⟨h.1, fun i hi => ?_⟩
    have h1 := h.2 i hi
    unfold wpOpX at h1
    unfold wpOpIn
    cases ho : ops[i]? with
    | none =>
      simp only [ho] at h1 ⊢
      exact wpAnyG_in hnd fuel _ a w h1.2
    | some o =>
      simp only [ho] at h1 ⊢
      have hd : isDefer o.op = false := by
        have := List.all_eq_true.1 hnd o (by rw [← Array.getElem?_toList] at ho; exact List.mem_of_getElem? ho)
        simpa using this
      split at h1
      · rename_i hw
        rw [if_pos hw]
        exact uponX_in (fun a w q => wpAnyG_in hnd fuel _ a w q.2) hd h1
      · rename_i hw
        rw [if_neg hw]
        exact ⟨fun _ _ => trivial, wpAnyG_in hnd fuel _ _ _ h1.2⟩

/-- An operation that yields its value wherever S holds may be taken first, if S is always so, or G tells it and whoever does not wait keeps G. -/
theorem wpAnyG_first {S : World → Prop} {i : Nat} {oi : Oper} {v : Value} (hi : ops[i]? = some oi) (hsel : ∀ (j : Nat) (o : Oper) cs b, ops[j]? = some o → o.op ≠ .select cs b)
    (hQ : ∀ c a w, Q (.panic c) (a.put oi.dst v) w → Q (.panic c) a w)
    (hkeep : (∀ w, S w) ∨ (S = G ∧ ∀ j oj, ops[j]? = some oj → j ≠ i → (∀ e ∈ oj.after, Region.binds .any e = true → e.on ≠ i) → keep j = true)) :
    ∀ (fuel : Nat) (listed : Array Bool) (a : Act) (w : World),
      (∀ j oj, ops[j]? = some oj → j ≠ i → listed.getD j true = false → (∀ e ∈ oj.after, Region.binds .any e = true → e.on ≠ i) → oi.apart ops oj = true) →
      i ∈ Region.ready .any ops listed → YieldsIf P ops S oi v a → S w →
      wpAnyG P ops Q G keep fuel (listed.setIfInBounds i true) (a.put oi.dst v) w → wpAnyG P ops Q G keep (fuel + 1) listed a w := by
  intro fuel
  induction fuel with
  | zero =>
    intro listed a w _ hr hy hS H
    refine ⟨fun h => (by rw [h] at hr; cases hr), fun j hj => ?_⟩
    by_cases hji : j = i
    · subst hji; exact YieldsIf.wpOpX hi hy hS ⟨fun _ h => h, H⟩
    · have := ready_mono hj hji
      rw [H.1] at this
      cases this
  | succ fuel ih =>
    intro listed a w hfree hr hy hS H
    refine ⟨fun h => (by rw [h] at hr; cases hr), fun j hj => ?_⟩
    by_cases hji : j = i
    · subst hji; exact YieldsIf.wpOpX hi hy hS ⟨fun _ h => h, H⟩
    · have h1 := H.2 j (ready_mono hj hji)
      obtain ⟨hjun, oj, hoj, hall⟩ := mem_ready.1 hj
      have hnot : ∀ e ∈ oj.after, Region.binds .any e = true → e.on ≠ i := fun e he hb heq => by
        have g1 := hall e he hb
        have g0 := (mem_ready.1 hr).1
        rw [heq] at g1
        rcases Nat.lt_or_ge i listed.size with h' | h'
        · simp [h'] at g0 g1; rw [g0] at g1; cases g1
        · simp [Array.getElem?_eq_none h'] at g1
      have h2 := wpOpX_putIf hoj (hfree j oj hoj hji hjun hnot) (fun cs b => hsel i oi cs b hi) (fun cs b => hsel j oj cs b hoj) hQ hy h1
      have hfree' : ∀ k ok, ops[k]? = some ok → k ≠ i → (listed.setIfInBounds j true).getD k true = false →
          (∀ e ∈ ok.after, Region.binds .any e = true → e.on ≠ i) → oi.apart ops ok = true := fun k ok hk hki hun hno => by
        refine hfree k ok hk hki ?_ hno
        by_cases hjk : j = k
        · subst hjk; exact hjun
        · rw [getD_set_ne true hjk] at hun; exact hun
      refine wpOpX_mono (fun a' w' h3 => ?_) h2
      have hS' : S w' := by
        rcases hkeep with hall | ⟨rfl, hk⟩
        · exact hall w'
        · exact h3.2.1 (hk j oj hoj hji hnot) hS
      refine ⟨h3.2.1, ih (listed.setIfInBounds j true) a' w' hfree' (ready_mono hr (Ne.symm hji)) h3.1 hS' ?_⟩
      rw [Array.setIfInBounds_comm _ _ hji]
      exact h3.2.2
end

/-- An effect that only reads what is held: its value. -/
structure HVC (P : Program) (x : Eff) (Lh L : List Assn) (K : SV → List Assn → Prop) : Prop where
  out : ∃ v L2, (∀ w R, Own w Lh R → (x.next).run P w = .ok (.value v) w) ∧ Ent L L2 ∧ K (.v v) L2

/-- An effect that asks nothing of the world. -/
structure PVC (P : Program) (x : Eff) (L : List Assn) (K : SV → List Assn → Prop) : Prop where
  out : ∃ v, (∀ w, (x.next).run P w = .ok (.value v) w) ∧ K (.v v) L

/-- What is held is still there. -/
structure HoldVC (Lh L : List Assn) (K : Prop) : Prop where
  held : Ent L Lh
  out : K

/-- An order of a statement's operations. op i 2: asks nothing of the world; op i 1: only reads, of what is held; op i 0: comes up alone; alt: either may come up; join: what comes behind is met from one state on. -/
inductive Pl where
  | done
  | op (i h : Nat) (rest : Pl)
  | alt (p q : Pl)
  | join (p rest : Pl)

namespace Pl
def flat : Pl → List (Nat × Nat)
  | done => []
  | op i h rest => (i, h) :: flat rest
  | alt p q => flat p ++ flat q
  | join p rest => flat p ++ flat rest
def len : Pl → Nat
  | done => 0
  | op _ _ rest => len rest + 1
  | alt p q => max (len p) (len q)
  | join p rest => len p + len rest
/-- Is anything still to be read? -/
def rds : Pl → Bool
  | done => false
  | op _ h rest => Nat.beq h 1 || rds rest
  | alt p q => rds p || rds q
  | join p rest => rds p || rds rest
def heads : Pl → List Nat
  | op i 0 _ => [i]
  | alt p q => heads p ++ heads q
  | _ => []
end Pl

/-- From where several ways meet on. -/
structure JoinVC (A : (Exit → Env → List Assn → Prop) → Prop) (B : Env → List Assn → Prop) : Prop where
  out : ∃ (ι : Type) (E : ι → Env) (M : ι → List Assn) (φ : ι → Prop), A (fun e env' L' => e = .normal ∧ ∃ i, At E M φ i env' L') ∧ ∀ i, φ i → B (E i) (M i)

noncomputable def anyVC (P : Program) (T : Tab) (n : Nat) (ops : Array Oper) (Lh : List Assn) (keep : List Nat) (pl : Pl) : Bool → Env → List Assn → (Exit → Env → List Assn → Prop) → Prop :=
  Pl.rec (motive := fun _ => Bool → Env → List Assn → (Exit → Env → List Assn → Prop) → Prop)
    (done := fun _ env L X => X .normal env L)
    (op := fun i h rest ih rd env L X => match ops[i]? with
    | none => False
    | some o => guardVC ops o.guard env
      (fun env => match h with
        | 2 => opVC T o env L (fun x K => PVC P x L K) fun v L => putVC n o.dst v env fun env => ih rd env L X
        | 1 => opVC T o env L (fun x K => HVC P x Lh L K) fun v L => putVC n o.dst v env fun env => ih rd env L X
        | _ => opVC T o env L (fun x K => VC P x L (goOn env X K)) fun v L => putVC n o.dst v env fun env => match keep.contains i || (rd || rest.rds) with
          | true => HoldVC Lh L (ih rd env L X)
          | false => ih rd env L X)
      (fun env => putVC n o.dst .u env fun env => ih rd env L X))
    (alt := fun _ _ ihp ihq rd env L X => ihp rd env L X ∧ ihq rd env L X)
    (join := fun _ rest ihp ihr rd env L X => JoinVC (fun X' => ihp (rd || rest.rds) env L X') (fun env L => ihr rd env L X)) pl
theorem anyVC_op (P : Program) (T : Tab) (n : Nat) (ops : Array Oper) (Lh : List Assn) (keep : List Nat) (i h : Nat) (rest : Pl) (rd : Bool) (env : Env) (L : List Assn) (X : Exit → Env → List Assn → Prop) :
    anyVC P T n ops Lh keep (.op i h rest) rd env L X = (match ops[i]? with
    | none => False
    | some o => guardVC ops o.guard env
      (fun env => match h with
        | 2 => opVC T o env L (fun x K => PVC P x L K) fun v L => putVC n o.dst v env fun env => anyVC P T n ops Lh keep rest rd env L X
        | 1 => opVC T o env L (fun x K => HVC P x Lh L K) fun v L => putVC n o.dst v env fun env => anyVC P T n ops Lh keep rest rd env L X
        | _ => opVC T o env L (fun x K => VC P x L (goOn env X K)) fun v L => putVC n o.dst v env fun env => match keep.contains i || (rd || rest.rds) with
          | true => HoldVC Lh L (anyVC P T n ops Lh keep rest rd env L X)
          | false => anyVC P T n ops Lh keep rest rd env L X)
      (fun env => putVC n o.dst .u env fun env => anyVC P T n ops Lh keep rest rd env L X)) := rfl

/-- The order may be taken; b: one of several. -/
def chk (ops : Array Oper) : Pl → Bool → Array Bool → (Array Bool → Bool) → Bool
  | .done, b, listed, k => !b && k listed
  | .op i 0 rest, b, listed, k => (b || (Region.ready .any ops listed == [i])) && chk ops rest false (listed.setIfInBounds i true) k
  | .op i (h + 1) rest, b, listed, k => !b && Nat.ble h 1 && (Region.ready .any ops listed).contains i && Region.free .any ops listed i && chk ops rest false (listed.setIfInBounds i true) k
  | .alt p q, b, listed, k => (b || ((Region.ready .any ops listed).all (fun i => (p.heads ++ q.heads).contains i) && !(Region.ready .any ops listed).isEmpty)) && chk ops p true listed k && chk ops q true listed k
  | .join p rest, b, listed, k => !b && chk ops p false listed fun l => chk ops rest false l k

/-- Whoever does not wait for a read keeps what is held. -/
def keepOK (ops : Array Oper) (pl : List (Nat × Nat)) (keep : List Nat) : Bool :=
  pl.all fun p => !(Nat.beq p.2 1) || (List.range ops.size).all fun j => j == p.1 || keep.contains j || pl.any (fun q => q.1 == j && !(Nat.beq q.2 0)) || ((ops[j]?).map (·.after.any fun e => Region.binds .any e && e.on == p.1)).getD true

def uniqOK (pl : List (Nat × Nat)) : Bool := pl.all fun p => pl.all fun q => !(Nat.beq p.1 q.1) || Nat.beq p.2 q.2
def drawOK (ops : Array Oper) (pl : Pl) (keep : List Nat) : Bool :=
  (ops.toList.all fun o => !isDefer o.op) && Region.noSelect ops && chk ops pl false (Array.replicate ops.size false) (fun l => (Region.ready .any ops l).isEmpty) && keepOK ops pl.flat keep && uniqOK pl.flat && Nat.ble pl.len ops.size

def keeps (pl : List (Nat × Nat)) (keep : List Nat) (j : Nat) : Bool := keep.contains j || pl.any fun q => q.1 == j && !(Nat.beq q.2 0)

theorem keepOK_spec {ops : Array Oper} {pl : List (Nat × Nat)} {keep : List Nat} (h : keepOK ops pl keep = true) {i : Nat} (hi : (i, 1) ∈ pl) :
    ∀ j oj, ops[j]? = some oj → j ≠ i → (∀ e ∈ oj.after, Region.binds .any e = true → e.on ≠ i) → keeps pl keep j = true := by
  intro j oj hj hji hno
  have h1 := List.all_eq_true.1 h _ hi
  simp only [Nat.beq_refl, Bool.not_true, Bool.false_or] at h1
  have hlt : j < ops.size := (Array.getElem?_eq_some_iff.1 hj).1
  have h2 := List.all_eq_true.1 h1 j (List.mem_range.2 hlt)
  simp only [Bool.or_eq_true, beq_iff_eq] at h2
  unfold keeps
  rcases h2 with ((h2 | h2) | h2) | h2
  · exact (hji h2).elim
  · rw [h2]; rfl
  · rw [h2]; simp
  · rw [hj] at h2
    simp only [Option.map_some, Option.getD_some] at h2
    obtain ⟨k, hk, h3⟩ := Array.any_eq_true.1 h2
    simp only [Bool.and_eq_true, beq_iff_eq] at h3
    exact (hno _ (Array.getElem_mem hk) h3.1 h3.2).elim

theorem VC_uponX {P : Program} {o : Oper} {a : Act} {x : Eff} {L : List Assn} {n : Nat} {R : Rest} {env : Env} {ms : List Nat} {X : Exit → Env → List Assn → Prop} {K : SV → List Assn → Prop} {next : Act → World → Prop} {w : World}
    (h : VC P x L (goOn env X K)) (hr : (execOp a.eval o).run P w = x.next.run P w) (hf : Fr a n env ms) (hw : Own w L R)
    (hn : ∀ (sv : SV) (w' : World) (L' : List Assn), sv.isD = false → Own w' L' R → K sv L' → next (a.put o.dst sv.val) w') : uponX P o a next (XP1 ms R n X) ((execOp a.eval o).run P w) := by
  have := h.out w R hw
  rw [hr]
  generalize x.next.run P w = r at *
  cases r with
  | ok nx w' =>
    cases nx with
    | value v => obtain ⟨L', o', k⟩ := this; exact hn _ _ _ rfl o' k
    | skip => obtain ⟨L', o', k⟩ := this; exact hn _ _ _ rfl o' k
    | enter f args =>
      refine Calls.mono this ?_
      rintro e w'' ⟨L', o', k⟩
      cases e with
      | returned v => exact hn (.v v) _ _ rfl o' k
      | panicked ch => exact ⟨env, L', hf, o', k⟩
      | outgrown => exact k.elim
    | row row args => exact Rows.mono this fun v w'' ⟨L', o', k⟩ => hn (.v v) _ _ rfl o' k
    | round l f tmps assign body =>
      refine RoundIn.mono this ?_
      rintro e w'' ⟨L', o', k⟩
      cases e with
      | returned v => exact hn (.v v) _ _ rfl o' k
      | panicked ch => exact ⟨env, L', hf, o', k⟩
      | outgrown => exact k.elim
    | _ => exact this.elim
  | halt hh w' =>
    cases hh with
    | panic v => obtain ⟨L', o', k⟩ := this; exact ⟨env, L', hf, o', k⟩
    | _ => exact this.elim

theorem uniq_of {pl : List (Nat × Nat)} (h : uniqOK pl = true) : ∀ i a b, (i, a) ∈ pl → (i, b) ∈ pl → a = b := by
  intro i a b ha hb
  have h1 := List.all_eq_true.1 (List.all_eq_true.1 h _ ha) _ hb
  simp only [Nat.beq_refl, Bool.not_true, Bool.false_or] at h1
  exact Nat.eq_of_beq_eq_true h1

theorem orl {a b c : Bool} (h : (a || b) = true) : (a || (b || c)) = true := by cases a <;> cases b <;> simp_all
theorem orr {a b c : Bool} (h : (a || c) = true) : (a || (b || c)) = true := by cases a <;> cases b <;> simp_all
theorem orj {a b c : Bool} (h : ((a || c) || b) = true) : (a || (b || c)) = true := by cases a <;> cases b <;> simp_all

theorem uponX_post {P : Program} {o : Oper} {a : Act} {K : Act → World → Prop} {Q Q' : Exit → Act → World → Prop} (hQ : ∀ c a w, Q (.panic c) a w → Q' (.panic c) a w) {r : Result Next} (hh : uponX P o a K Q r) : uponX P o a K Q' r := by
  cases r with
  | ok n w' =>
    cases n with
    | value v => exact hh
    | skip => exact hh
    | enter f args => exact Calls.mono hh fun e w'' q => by cases e <;> first | exact hQ _ _ _ q | exact q
    | row row args => exact hh
    | round l f tmps assign body => exact RoundIn.mono hh fun e w'' q => by cases e <;> first | exact hQ _ _ _ q | exact q
    | _ => exact hh.elim
  | halt x w' => cases x with
    | panic v => exact hQ _ _ _ hh
    | _ => exact hh.elim

theorem wpAnyG_done {P : Program} {ops : Array Oper} {Q : Exit → Act → World → Prop} {G : World → Prop} {keep : Nat → Bool} {listed : Array Bool} {a : Act} {w : World} (hr : (Region.ready .any ops listed).isEmpty = true) (hq : Q .normal a w) (fuel : Nat) : wpAnyG P ops Q G keep fuel listed a w := by
  have hr' : Region.ready .any ops listed = [] := by simpa using hr
  cases fuel with
  | zero => exact ⟨hr', hq⟩
  | succ f => exact ⟨fun _ => hq, fun i hi => by rw [hr'] at hi; cases hi⟩

theorem anyVC_sound {P : Program} {T : Tab} (hT : TabOK P T) {n : Nat} {ms : List Nat} {ops : Array Oper} {Q : Exit → Act → World → Prop} {R : Rest} {Lh : List Assn} {keep : List Nat} (hsel : Region.noSelect ops = true) {pl0 : List (Nat × Nat)} (hk : keepOK ops pl0 keep = true)
    (hQ : ∀ c a w, Q (.panic c) a w → False) (huniq : ∀ i h h', (i, h) ∈ pl0 → (i, h') ∈ pl0 → h = h') :
    ∀ (pl : Pl) (b rd : Bool) (X : Exit → Env → List Assn → Prop), (∀ c env L, ¬ X (.panic c) env L) → ∀ (k : Array Bool → Bool) (m : Nat),
      (∀ listed env L a w fuel, m ≤ fuel → k listed = true → Fr a n env ms → Own w L R → (rd = true → Own w Lh R) → X .normal env L → wpAnyG P ops Q (fun w => Own w Lh R) (keeps pl0 keep) fuel listed a w) →
      ∀ (listed : Array Bool) (env : Env) (L : List Assn), (∀ p ∈ pl.flat, p ∈ pl0) → anyVC P T n ops Lh keep pl rd env L X → chk ops pl b listed k = true → ∀ a w, Fr a n env ms → Own w L R → ((rd || pl.rds) = true → Own w Lh R) →
      (b = true → ∀ f, pl.len + m ≤ f + 1 → ∀ i ∈ pl.heads, wpOpX P ops Q i (fun a' w' => (keeps pl0 keep i = true → Own w Lh R → Own w' Lh R) ∧ wpAnyG P ops Q (fun w => Own w Lh R) (keeps pl0 keep) f (listed.setIfInBounds i true) a' w') a w) ∧
      (b = false → ∀ fuel, pl.len + m ≤ fuel → wpAnyG P ops Q (fun w => Own w Lh R) (keeps pl0 keep) fuel listed a w) := by
  intro pl
  induction pl with
  | done =>
    intro b rd X hX k m fin listed env L hsub hv hp a w hf hw hg
    simp only [chk, Bool.and_eq_true, Bool.not_eq_true'] at hp
    exact ⟨fun h => (by rw [hp.1] at h; cases h), fun _ fuel hfu => fin listed env L a w fuel (by simpa [Pl.len] using hfu) hp.2 hf hw (fun h => hg (by simp [h])) hv⟩
  | alt p q ihp ihq =>
    intro b rd X hX k m fin listed env L hsub hv hp a w hf hw hg
    simp only [chk, Bool.and_eq_true] at hp
    obtain ⟨⟨hb, hp1⟩, hp2⟩ := hp
    have A := (ihp true rd X hX k m fin listed env L (fun x h => hsub x (by simp [Pl.flat, h])) hv.1 hp1 a w hf hw (fun h => hg (orl h))).1 rfl
    have B := (ihq true rd X hX k m fin listed env L (fun x h => hsub x (by simp [Pl.flat, h])) hv.2 hp2 a w hf hw (fun h => hg (orr h))).1 rfl
    have both : ∀ f, (Pl.alt p q).len + m ≤ f + 1 → ∀ i ∈ (Pl.alt p q).heads, wpOpX P ops Q i (fun a' w' => (keeps pl0 keep i = true → Own w Lh R → Own w' Lh R) ∧ wpAnyG P ops Q (fun w => Own w Lh R) (keeps pl0 keep) f (listed.setIfInBounds i true) a' w') a w := by
      intro f hfu i hi
      simp only [Pl.len] at hfu
      simp only [Pl.heads, List.mem_append] at hi
      rcases hi with hi | hi
      · exact A f (by omega) i hi
      · exact B f (by omega) i hi
    refine ⟨fun _ => both, fun h fuel hfu => ?_⟩
    subst h
    simp only [Bool.false_or, Bool.and_eq_true] at hb
    have hl : ∀ z : Pl, z.heads ≠ [] → 1 ≤ z.len := by
      intro z
      induction z with
      | done => intro h; exact (h rfl).elim
      | op i h rest _ => intro _; simp [Pl.len]
      | alt p q i1 i2 =>
        intro h
        simp only [Pl.len]
        by_cases hp : p.heads = []
        · have := i2 (by intro hq; exact h (by simp [Pl.heads, hp, hq])); omega
        · have := i1 hp; omega
      | join p r _ _ => intro h; exact (h rfl).elim
    have hne : (Pl.alt p q).heads ≠ [] := by
      intro he
      cases hr : Region.ready .any ops listed with
      | nil => rw [hr] at hb; simp at hb
      | cons x xs =>
        have := List.all_eq_true.1 hb.1 x (by rw [hr]; simp)
        simp only [Pl.heads] at he
        rw [he] at this
        simp at this
    have h1 := hl _ hne
    obtain ⟨f, rfl⟩ : ∃ f, fuel = f + 1 := ⟨fuel - 1, by omega⟩
    refine ⟨fun h0 => (by rw [h0] at hb; simp at hb), fun j hj => ?_⟩
    have := List.all_eq_true.1 hb.1 j hj
    exact both f hfu j (by simpa [Pl.heads] using this)
  | join p rest ihp ihr =>
    intro b rd X hX k m fin listed env L hsub hv hp a w hf hw hg
    simp only [chk, Bool.and_eq_true, Bool.not_eq_true'] at hp
    obtain ⟨hb, hp⟩ := hp
    refine ⟨fun h => (by rw [hb] at h; cases h), fun _ fuel hfu => ?_⟩
    obtain ⟨ι, E, M, φ, h1, h2⟩ := JoinVC.out hv
    refine (ihp false (rd || rest.rds) _ (fun c env L h => by cases h.1) (fun l => chk ops rest false l k) (rest.len + m) ?_ listed env L (fun x h => hsub x (by simp [Pl.flat, h])) h1 hp a w hf hw (fun h => hg (orj h))).2 rfl fuel (by simp only [Pl.len] at hfu; omega)
    intro listed' env' L' a' w' fuel' hfu' hk' hf' hw' hg' hx
    obtain ⟨-, i, hat⟩ := hx
    refine (ihr false rd X hX k m fin listed' (E i) (M i) (fun x h => hsub x (by simp [Pl.flat, h])) (h2 i hat.fact) hk' a' w' (hf'.sub hat.sub) (hat.own _ _ hw') hg').2 rfl fuel' hfu'
  | op i h rest ih =>
    intro b rd X hX k m fin listed env L hsub hv hp a w hf hw hg
    have hsub' : ∀ p ∈ rest.flat, p ∈ pl0 := fun p m => hsub p (by simp [Pl.flat, m])
    rw [anyVC_op] at hv
    split at hv
    · exact hv.elim
    · rename_i o ho
      cases h with
      | zero =>
        simp only [chk, Bool.and_eq_true, Bool.or_eq_true, beq_iff_eq] at hp
        obtain ⟨hp1, hp2⟩ := hp
        have core : ∀ f, (Pl.op i 0 rest).len + m ≤ f + 1 → wpOpX P ops Q i (fun a' w' => (keeps pl0 keep i = true → Own w Lh R → Own w' Lh R) ∧ wpAnyG P ops Q (fun w => Own w Lh R) (keeps pl0 keep) f (listed.setIfInBounds i true) a' w') a w := by
          intro f hfu
          simp only [Pl.len] at hfu
          have hki : keeps pl0 keep i = true → keep.contains i = true := by
            intro hh
            unfold keeps at hh
            rcases Bool.or_eq_true _ _ ▸ hh with hh | hh
            · exact hh
            · obtain ⟨q, hq, hq2⟩ := List.any_eq_true.1 hh
              simp only [Bool.and_eq_true, beq_iff_eq] at hq2
              obtain ⟨q1, q2⟩ := q
              simp only at hq2
              obtain ⟨rfl, hq3⟩ := hq2
              have := huniq _ _ _ hq (hsub (_, 0) (by simp [Pl.flat]))
              subst this
              simp at hq3
          have next : ∀ (env' : Env) (L' : List Assn) (a' : Act) (w' : World), Fr a' n env' ms → Own w' L' R → ((keep.contains i || (rd || rest.rds)) = true → Ent L' Lh) → anyVC P T n ops Lh keep rest rd env' L' X →
              (keeps pl0 keep i = true → Own w Lh R → Own w' Lh R) ∧ wpAnyG P ops Q (fun w => Own w Lh R) (keeps pl0 keep) f (listed.setIfInBounds i true) a' w' := by
            intro env' L' a' w' hf' hw' hh h'
            exact ⟨fun hc _ => hh (by simp only [hki hc, Bool.true_or]) _ _ hw', (ih false rd X hX k m fin _ env' L' hsub' h' hp2 a' w' hf' hw' (fun ha => hh (by simp only [ha, Bool.or_true]) _ _ hw')).2 rfl f (by omega)⟩
          unfold wpOpX
          simp only [ho]
          obtain ⟨env, hf, hv | hv⟩ := guardVC_sound hv hf
          · obtain ⟨hwant, hv⟩ := hv
            rw [if_pos hwant]
            have fin' : ∀ (sv : SV) (w' : World) (L' : List Assn), Own w' L' R → (putVC n o.dst sv env fun env => match keep.contains i || (rd || rest.rds) with
                | true => HoldVC Lh L' (anyVC P T n ops Lh keep rest rd env L' X)
                | false => anyVC P T n ops Lh keep rest rd env L' X) →
                (keeps pl0 keep i = true → Own w Lh R → Own w' Lh R) ∧ wpAnyG P ops Q (fun w => Own w Lh R) (keeps pl0 keep) f (listed.setIfInBounds i true) (a.put o.dst sv.val) w' := by
              intro sv w' L' o' kk
              obtain ⟨env', hf', h'⟩ := putVC_sound kk hf sv.val (fun _ => rfl)
              cases hn : (keep.contains i || (rd || rest.rds)) with
              | true => rw [hn] at h'; exact next _ _ _ _ hf' o' (fun _ => h'.held) h'.out
              | false => rw [hn] at h'; exact next _ _ _ _ hf' o' (fun e => by rw [hn] at e; cases e) h'
            refine uponX_post (Q := XP1 ms R n X) (fun c a' w' ⟨e1, L1, f1, o1, x1⟩ => (hX c e1 L1 x1).elim) ?_
            rcases opVC_cases (P := P) hT hf.agrees o hv with ⟨sv, hd, hk', hr⟩ | ⟨x, hx, hr⟩
            · rw [hr]
              simp only [uponX]
              exact fin' sv w L hw hk'
            · refine VC_uponX hx (hr w) hf hw ?_
              intro sv w' L' _ o' kk
              exact fin' sv w' L' o' kk
          · obtain ⟨hwant, hv⟩ := hv
            rw [if_neg (by simp [hwant])]
            obtain ⟨env', hf', h'⟩ := putVC_sound hv hf undef (fun _ => rfl)
            exact ⟨fun _ g => g, (ih false rd X hX k m fin _ env' L hsub' h' hp2 _ w hf' hw fun ha => hg (orr ha)).2 rfl f (by omega)⟩
        refine ⟨fun _ f hfu j hj => ?_, fun hb fuel hfu => ?_⟩
        · simp only [Pl.heads, List.mem_singleton] at hj
          subst hj
          exact core f hfu
        · subst hb
          simp only [Bool.false_eq_true, false_or] at hp1
          obtain ⟨f, rfl⟩ : ∃ f, fuel = f + 1 := ⟨fuel - 1, by simp only [Pl.len] at hfu; omega⟩
          refine ⟨fun h0 => (by rw [h0] at hp1; cases hp1), fun j hj => ?_⟩
          rw [hp1] at hj
          obtain rfl : j = i := by simpa using hj
          exact core f hfu
      | succ h' =>
        simp only [chk, Bool.and_eq_true, Bool.not_eq_true'] at hp
        obtain ⟨⟨⟨⟨hb, hp0⟩, hp1⟩, hp2⟩, hp3⟩ := hp
        refine ⟨fun h => (by rw [hb] at h; cases h), fun _ fuel hfu => ?_⟩
        obtain ⟨f, rfl⟩ : ∃ f, fuel = f + 1 := ⟨fuel - 1, by simp only [Pl.len] at hfu; omega⟩
        have hfu' : rest.len + m ≤ f := by simp only [Pl.len] at hfu; omega
        have hp0' : h' ≤ 1 := Nat.le_of_ble_eq_true hp0
        have hg' : (rd || rest.rds) = true → Own w Lh R := fun ha => hg (orr ha)
        -- taken first: S is what it reads
        have first : ∀ (S : World → Prop), ((∀ w, S w) ∨ (h' + 1 = 1 ∧ S = fun w => Own w Lh R)) → S w → ∀ (v : Value), YieldsIf P ops S o v a → ∀ (env' : Env) (L2 : List Assn), Fr (a.put o.dst v) n env' ms → Own w L2 R → anyVC P T n ops Lh keep rest rd env' L2 X →
            wpAnyG P ops Q (fun w => Own w Lh R) (keeps pl0 keep) (f + 1) listed a w := by
          intro S hS hSw v hy env' L2 hf' hw' hv'
          refine wpAnyG_first (S := S) ho (Region.noSelect_spec hsel) (fun c a' w' q => (hQ _ _ _ q).elim) ?_ f listed a w (Region.free_spec ho hp2) (by simpa using hp1) hy hSw ((ih false rd X hX k m fin _ env' L2 hsub' hv' hp3 _ w hf' hw' hg').2 rfl f hfu')
          rcases hS with hS | ⟨e1, rfl⟩
          · exact .inl hS
          · rw [e1] at hsub; exact .inr ⟨rfl, keepOK_spec hk (hsub _ (by simp [Pl.flat]))⟩
        obtain ⟨env, hf, hv | hv⟩ := guardVC_sound hv hf
        · obtain ⟨hwant, hv⟩ := hv
          rcases (show h' = 1 ∨ h' = 0 by omega) with rfl | rfl
          · -- asks nothing
            simp only at hv
            rcases opVC_cases (P := P) hT hf.agrees o hv with ⟨sv, hd, hk', hr⟩ | ⟨x, hx, hr⟩
            · obtain ⟨env', hf', h'⟩ := putVC_sound hk' hf sv.val (fun _ => rfl)
              exact first (fun _ => True) (.inl fun _ => trivial) trivial _ (.inl ⟨hwant, fun w _ => hr w⟩) env' L hf' hw h'
            · obtain ⟨v, hvv, hk'⟩ := hx.out
              obtain ⟨env', hf', h'⟩ := putVC_sound hk' hf v (fun _ => rfl)
              exact first (fun _ => True) (.inl fun _ => trivial) trivial _ (.inl ⟨hwant, fun w _ => by rw [hr]; exact hvv w⟩) env' L hf' hw h'
          · have hgood : Own w Lh R := hg (by simp [Pl.rds])
            simp only [Nat.zero_add] at hv
            rcases opVC_cases (P := P) hT hf.agrees o hv with ⟨sv, hd, hk', hr⟩ | ⟨x, hx, hr⟩
            · obtain ⟨env', hf', h'⟩ := putVC_sound hk' hf sv.val (fun _ => rfl)
              exact first (fun w => Own w Lh R) (.inr ⟨rfl, rfl⟩) hgood _ (.inl ⟨hwant, fun w _ => hr w⟩) env' L hf' hw h'
            · obtain ⟨v, L2, hvv, he, hk'⟩ := hx.out
              obtain ⟨env', hf', h'⟩ := putVC_sound hk' hf v (fun _ => rfl)
              exact first (fun w => Own w Lh R) (.inr ⟨rfl, rfl⟩) hgood _ (.inl ⟨hwant, fun w o => by rw [hr]; exact hvv w R o⟩) env' L2 hf' (he w R hw) h'
        · obtain ⟨hwant, hv⟩ := hv
          obtain ⟨env', hf', h'⟩ := putVC_sound hv hf undef (fun _ => rfl)
          exact first (fun _ => True) (.inl fun _ => trivial) trivial undef (.inr ⟨hwant, rfl⟩) env' L hf' hw h'

/-- Several ways meet: there, the state is that of an index. -/
theorem xmeet {A : (Exit → Env → List Assn → Prop) → Prop} {B : Env → List Assn → Prop} {ι : Type} (E : ι → Env) (M : ι → List Assn) (φ : ι → Prop) (h1 : A (fun e env' L' => e = .normal ∧ ∃ i, At E M φ i env' L')) (h2 : ∀ i, φ i → B (E i) (M i)) : JoinVC A B :=
  ⟨ι, E, M, φ, h1, h2⟩

def noPanic (X : Exit → Env → List Assn → Prop) : Exit → Env → List Assn → Prop
  | .panic _, _, _ => False
  | .outgrown, _, _ => False
  | e, env, L => X e env L

class Mixed (P : Program) : Prop where
  out : P.follows .mixedOrders = true

/-- A statement whose order is open. -/
theorem xdraw {P : Program} {T : Tab} [c : TabC P T] [m : Mixed P] {n id : Nat} {ops : Array Oper} {env : Env} {L : List Assn} {X : Exit → Env → List Assn → Prop} (Lh : List Assn) (pl : Pl) (keep : List Nat)
    (hok : drawOK ops pl keep = true) (hL : Ent L Lh) (h : anyVC P T n ops Lh keep pl false env L (noPanic X)) : CodeVC P T n (.region id ops true) env L X := by
  refine ⟨fun ro R a w ⟨ms, R1, hf, hw, hb, hr⟩ => ?_⟩
  simp only [drawOK, Bool.and_eq_true] at hok
  obtain ⟨⟨⟨⟨⟨h0, h1⟩, h2⟩, h3⟩, h5⟩, h4⟩ := hok
  refine wpIn_mono (Q := XP1 ms R1 n (noPanic X)) (wpIn_region_any m.out (wpAnyG_in (G := fun w => Own w Lh R1) (keep := keeps pl.flat keep) h0 _ _ _ _ ?_)) ?_
  · refine (anyVC_sound (R := R1) (Q := XP1 ms R1 n (noPanic X)) c.ok h1 h3 (fun c a w ⟨_, _, _, _, h⟩ => h) (uniq_of h5) pl false false (noPanic X) (fun c env L h => h) _ 0 ?_ _ env L (fun p m => m) h h2 a { w with drawn := w.drawn + 1 } hf hw.draw (fun _ => hL _ _ hw.draw)).2 rfl _ (by have := Nat.le_of_ble_eq_true h4; omega)
    intro listed env' L' a' w' fuel _ hk' hf' hw' _ hx
    exact wpAnyG_done hk' ⟨env', L', hf', hw', hx⟩ fuel
  · rintro e a' w' ⟨env', L', f', o', x'⟩
    refine ⟨env', L', ⟨ms, R1, f', o', hb, hr⟩, ?_⟩
    cases e <;> first | exact x' | exact x'.elim

/-- The same, all that is owned being held. -/
theorem xdrawl {P : Program} {T : Tab} [c : TabC P T] [m : Mixed P] {n id : Nat} {ops : Array Oper} {env : Env} {L : List Assn} {X : Exit → Env → List Assn → Prop} (pl : Pl) (keep : List Nat)
    (hok : drawOK ops pl keep = true) (h : anyVC P T n ops L keep pl false env L (noPanic X)) : CodeVC P T n (.region id ops true) env L X := xdraw L pl keep hok (Ent.refl L) h

theorem held {Lh L L' : List Assn} {K : Prop} [t : Takes Lh L L'] (k : K) : HoldVC Lh L K := ⟨t.ent, k⟩

/-! ### What only reads -/
theorem hld {P : Program} {T : Tab} [c : TabC P T] {t : TypeId} {b off : Nat} {Lh L L' : List Assn} {e : TypeId} {cs : List Value} {K : SV → List Assn → Prop} {v : Value} [t' : TakePts b Lh e cs L']
    (h1 : one T t = true) (h2 : cs[off]? = some v) (k : K (.v v) L) : HVC P (.load t ⟨b, off, none⟩) Lh L K :=
  ⟨v, L, fun w R o => loadAt_run (load_one c.ok h1 (v := v) (by rw [cell_of (t'.out w R o).of_obj]; simpa using h2)), Ent.refl L, k⟩
theorem hlde {P : Program} {T : Tab} [c : TabC P T] {t : TypeId} {α : Type} {oa : Option Addr} {k cap j : Nat} {enc : α → List Value} {xs : List α} {Lh L : List Assn} {K : SV → List Assn → Prop} [r : RdS oa Lh α k enc cap xs]
    {x : α} {v : Value} (h1 : one T t = true) (hx : xs[j]? = some x) (hv : enc x = [v]) (q : K (.v v) L) : HVC P (.load t ((oget oa).add (j * k))) Lh L K :=
  ⟨v, L, fun w R o => by
    obtain ⟨hr, hk, -, -⟩ := r.out w R o
    obtain ⟨-, hc⟩ := reads_some hr (flat_get hk hx (f := 0) (v := v) (by rw [hv]; rfl))
    exact loadAt_run (load_one c.ok h1 (v := v) (by simpa using hc)), Ent.refl L, q⟩
theorem hldf {P : Program} {T : Tab} [c : TabC P T] {t : TypeId} {α : Type} {oa : Option Addr} {k cap j f : Nat} {enc : α → List Value} {xs : List α} {Lh L : List Assn} {K : SV → List Assn → Prop} [r : RdS oa Lh α k enc cap xs]
    {x : α} {v : Value} (h1 : one T t = true) (hx : xs[j]? = some x) (hv : (enc x)[f]? = some v) (q : K (.v v) L) : HVC P (.load t (plus ((oget oa).add (j * k)) f)) Lh L K :=
  ⟨v, L, fun w R o => by
    rw [plus_eq]
    obtain ⟨hr, hk, -, -⟩ := r.out w R o
    obtain ⟨-, hc⟩ := reads_some hr (flat_get hk hx hv)
    exact loadAt_run (load_one c.ok h1 (v := v) (add_add _ _ _ hc)), Ent.refl L, q⟩
theorem hidx {P : Program} {T : Tab} [c : TabC P T] {t : TypeId} {α : Type} {oa : Option Addr} {n cp k cap : Nat} {enc : α → List Value} {xs : List α} {kk : IntKind} {i : Int} {Lh L : List Assn} {K : SV → List Assn → Prop}
    [r : RdS oa Lh α k enc cap xs] (h1 : elemK T t k = true) (hn : n ≤ xs.length) (hi : 0 ≤ i ∧ i < n)
    (q : K (.v (.pointer (some ((oget oa).add (i.toNat * k))))) L) : HVC P (.idx t (.slice oa n cp) (.int kk i)) Lh L K :=
  ⟨_, L, fun w R o => by
    obtain ⟨hr, hk, -, -⟩ := r.out w R o
    obtain ⟨e, hd, hsz, hk0⟩ := elemK_spec c.ok h1
    have hil : i.toNat < xs.length := by omega
    have hx : xs[i.toNat]? = some xs[i.toNat] := List.getElem?_eq_getElem hil
    have hlen := (hk _ (List.getElem_mem hil)).1
    have hv : (enc xs[i.toNat])[0]? = some (enc xs[i.toNat])[0] := List.getElem?_eq_getElem (by omega)
    obtain ⟨hoa, -⟩ := reads_some hr (flat_get hk hx hv)
    rw [hoa]
    simp [Eff.next, Instr.indexAt, asIntOf, underlying_run hd, hi, hsz, oget], Ent.refl L, q⟩
theorem hmin {P : Program} {k k' : IntKind} {tys : List TypeId} {ty : TypeId} {cs : List Bool} {a b : Int} {Lh L : List Assn} {K : SV → List Assn → Prop} (q : K (.v (.int k (min a b))) L) : HVC P (.blt .min tys ty cs [.int k a, .int k' b]) Lh L K :=
  ⟨_, L, fun w R o => by
    have e : (if b < a then b else a) = min a b := by omega
    simp [Eff.next, builtin, Builtin.min_, Builtin.min2, e], Ent.refl L, q⟩
theorem hmax {P : Program} {k k' : IntKind} {tys : List TypeId} {ty : TypeId} {cs : List Bool} {a b : Int} {Lh L : List Assn} {K : SV → List Assn → Prop} (q : K (.v (.int k (max a b))) L) : HVC P (.blt .max tys ty cs [.int k a, .int k' b]) Lh L K :=
  ⟨_, L, fun w R o => by
    have e : (if a < b then b else a) = max a b := by omega
    simp [Eff.next, builtin, Builtin.max_, Builtin.max2, e], Ent.refl L, q⟩

theorem pmin {P : Program} {k k' : IntKind} {tys : List TypeId} {ty : TypeId} {cs : List Bool} {a b : Int} {L : List Assn} {K : SV → List Assn → Prop} (q : K (.v (.int k (min a b))) L) : PVC P (.blt .min tys ty cs [.int k a, .int k' b]) L K :=
  ⟨_, fun w => by
    have e : (if b < a then b else a) = min a b := by omega
    simp [Eff.next, builtin, Builtin.min_, Builtin.min2, e], q⟩
theorem pmax {P : Program} {k k' : IntKind} {tys : List TypeId} {ty : TypeId} {cs : List Bool} {a b : Int} {L : List Assn} {K : SV → List Assn → Prop} (q : K (.v (.int k (max a b))) L) : PVC P (.blt .max tys ty cs [.int k a, .int k' b]) L K :=
  ⟨_, fun w => by
    have e : (if a < b then b else a) = max a b := by omega
    simp [Eff.next, builtin, Builtin.max_, Builtin.max2, e], q⟩

/-- A part of a shared slice: what it reads as may be told from then on. -/
theorem hslc {P : Program} {T : Tab} [c : TabC P T] {t : TypeId} {α : Type} {oa : Option Addr} {n cp k cap : Nat} {enc : α → List Value} {xs : List α} {lo hi : Option Value} {Lh L : List Assn} {K : SV → List Assn → Prop}
    [r' : HasSof oa L α k enc cap xs] [r : HasSof oa Lh α k enc cap xs] (h1 : elemK T t k = true) {l h : Nat} (hl : Bnd lo 0 l) (hh : Bnd hi n h) (hcp : cp = cap) (hlh : l ≤ h) (hhn : h ≤ xs.length)
    (q : ∀ oa' cap', K (.v (.slice oa' ((xs.take h).drop l).length cap')) (sof k enc oa' cap' ((xs.take h).drop l) :: L)) : HVC P (.slc t (.slice oa n cp) lo hi none) Lh L K := by
  subst hcp
  obtain ⟨e, hd, hsz, hk0⟩ := elemK_spec c.ok h1
  have hlen : ((xs.take h).drop l).length = h - l := by simp; omega
  have q0 := q (if cp = l then oa else oa.map fun a : Addr => a.add (l * k)) (cp - l)
  rw [hlen] at q0
  refine ⟨.slice (if cp = l then oa else oa.map fun a : Addr => a.add (l * k)) (h - l) (cp - l), _, fun w R o => ?_, ?_, q0⟩
  · obtain ⟨-, -, hlc, hcm⟩ := (r.out w R o).sof
    have hb := sliceBounds_run (P := P) (b := true) hl hh hlh (Nat.le_trans hhn hlc) w
    simp [Eff.next, Instr.sliceAt, Instr.slice, underlying_run hd, hb, hsz]
  · intro w R o
    have o1 := r'.out w R o
    obtain ⟨-, -, hlc, hcm⟩ := o1.sof
    obtain ⟨F, hs, f, p, g, s, ev⟩ := o1
    cases f with
    | cons a f =>
      obtain ⟨a0, a1, a2, a3, a4⟩ := (show sofP _ _ _ _ _ _ _ from a)
      refine ⟨F, _, .cons (A := sof k enc _ _ _) ⟨a0, fun x m => a1 x (List.mem_of_mem_take (List.mem_of_mem_drop m)), by rw [hlen]; omega, by omega, ?_⟩ f, p, g, s, ev⟩
      rcases a4 with rfl | ⟨b, off, arr, e', fz, rfl, hF, hrd⟩
      · left; simp
      · by_cases hcl : cp = l
        · left
          apply List.eq_nil_of_length_eq_zero
          rw [hlen]; omega
        · right
          rw [if_neg hcl]
          refine ⟨b, off + l * k, arr, e', fz, by simp [add_at], hF, ?_⟩
          intro j v hj
          have := hrd _ v (flat_take_drop a1 l h hj)
          rw [← Nat.add_assoc] at this
          exact this

end Go.X
