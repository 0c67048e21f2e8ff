/- Loops over functions ('for x := range f'): what the function hands out, what a round does. A library; no statement of the seat is proved here. -/
import Derived.Test.YtbgjlghhcclooaaXCnv
namespace Go.X
open Go

/-- A block is put aside; it stays as it is. -/
theorem Own.aside {w : World} {b : Nat} {o : Obj} {L : List Assn} {R : Rest} (h : Own w (obj b o :: L) R) :
    ∃ R', Own w L R' ∧ R'.pv b = some o ∧ ∀ w' L', Own w' L' R' → Own w' (obj b o :: L') R := by
  obtain ⟨F, hs, f, p, q, s, e⟩ := h
  cases f with
  | cons a f =>
    rename_i k ks
    cases a
    rw [List.pairwise_cons] at p
    have ok := q _ (.head _)
    have dks : ∀ x ∈ ks, Hp.Disj x (Hp.one b o) := fun x m => (p.1 x m).symm
    refine ⟨{ R with sh := F, pv := Hp.or R.pv (Hp.one b o) }, ⟨F, ks, f, p.2,
      fun x m => ⟨(q x (.tail _ m)).1, (q x (.tail _ m)).2.1, (Hp.or_disj (q x (.tail _ m)).2.2.symm (dks x m).symm).symm⟩,
      ⟨.refl _, s.2.1, Hp.or_le s.2.2.1 ok.1, (Hp.or_disj s.2.2.2.symm ok.2.1).symm⟩, e⟩, Hp.or_right ok.2.2.symm _ _ (Hp.one_self b o), ?_⟩
    rintro w' L' ⟨G, xs, f', p', o', s', e'⟩
    refine ⟨G, Hp.one b o :: xs, .cons rfl f', ?_, ?_, ⟨s.1.trans s'.1, s'.2.1, Hp.or_left.trans s'.2.2.1, s'.2.2.2.right Hp.or_left⟩, e'⟩
    · rw [List.pairwise_cons]
      exact ⟨fun x m => ((o' x m).2.2.right (Hp.or_right ok.2.2.symm)).symm, p'⟩
    · intro x m
      cases m with
      | head => exact ⟨(Hp.or_right ok.2.2.symm).trans s'.2.2.1, (s'.2.2.2.right (Hp.or_right ok.2.2.symm)).symm, ok.2.2⟩
      | tail _ m => exact ⟨(o' x m).1, (o' x m).2.1, (o' x m).2.2.right Hp.or_left⟩

theorem Own.putObj {w : World} {b : Nat} {o o' : Obj} {L : List Assn} {R : Rest} (h : Own w (obj b o :: L) R) : Own (w.putObj b o') (obj b o' :: L) R :=
  h.write (World.putObj_heap_same (Array.getElem?_eq_some_iff.1 h.of_obj).1) (fun _ hc => World.putObj_heap_other hc) rfl rfl rfl

/-- What a call of yield does: one round. -/
structure YSpec (P : Program) (l : Nat) (args : List Value) (L : List Assn) (Q : Ending → List Assn → Prop) : Prop where
  out : ∀ w R, Own w L R → ∃ f tmps assign body, (Instr.yield l args.toArray).run P w = .ok (.round l f tmps assign body) w ∧ RoundIn Fence.wide 0 P l f tmps assign body w fun e w' => ∃ L', Own w' L' R ∧ Q e L'

theorem xyield {P : Program} {l : Nat} {args : List Value} {L M L' : List Assn} {Q K : Ending → List Assn → Prop} (h : YSpec P l args M Q) [t : Takes M L L'] (k : ∀ e N, Q e N → K e (N ++ L')) : VC P (.yield l args) L K := by
  refine ⟨fun w R o => ?_⟩
  obtain ⟨R', o1, back⟩ := (t.out w R o).frame
  obtain ⟨f, tmps, assign, body, h1, h2⟩ := h.out w R' o1
  show VCres P R K ((Instr.yield l args.toArray).run P w)
  rw [h1]
  exact h2.mono fun e w' ⟨N, o2, q⟩ => ⟨_, back w' N o2, k e N q⟩

/-- What a loop's round takes of what is handed out: the j-th, as what it hands tells; then one goes on, or not. -/
def Takes1 (P : Program) (l : Nat) (Y : Nat → List Value → List Assn → Prop) (C : Nat → List Assn → Prop) (Z : List Assn → Prop) : Prop :=
  ∀ j vs E, Y j vs E → ∀ L, C j L → YSpec P l vs (E ++ L) fun e L' => (e = .returned (.bool true) ∧ C (j + 1) L') ∨ (e = .returned (.bool false) ∧ Z L')

/-- What a function that is looped over does: it hands out, one by one, N times, or fewer, if it is told so. -/
def IterSpec (P : Program) (f : FuncId) (caps : List Value) (Y : Nat → List Value → List Assn → Prop) (N : Nat → Prop) (Lf : List Assn) (Lz : List Assn → Prop) : Prop :=
  ∀ l C Z, Takes1 P l Y C Z → ∀ L0, C 0 L0 → FnSpec P f (.func (.yield l) #[] #[] :: caps) (L0 ++ Lf) (Ret fun _ L => ∃ L1 L2, L = L1 ++ L2 ∧ Lz L2 ∧ ((∃ j, N j ∧ C j L1) ∨ Z L1))

/-- How a round is left for good. -/
def jumpOf : Exit → Option Code
  | .ret => some .ret
  | .exit id => some (.exit id)
  | .goto t => some (.goto t)
  | _ => none

def putAll : List Nat → List Value → Env → Env
  | p :: ps, v :: vs, env => putAll ps vs ((p, .v v) :: env)
  | _, _, env => env

theorem Fr.putAll {n : Nat} {ms : List Nat} : ∀ (ps : List Nat) (vs : List Value) (env : Env) (a : Act), (ps.all fun p => Nat.blt p n) = true → Fr a n env ms →
    Fr { a with tmps := (ps.zip vs).foldl (fun t (p, v) => t.setIfInBounds p v) a.tmps } n (X.putAll ps vs env) ms
  | [], vs, env, a, _, h => by cases vs <;> exact h
  | p :: ps, [], env, a, _, h => h
  | p :: ps, v :: vs, env, a, hp, h => by
    simp only [List.all_cons, Bool.and_eq_true] at hp
    have := Fr.putAll ps vs ((p, .v v) :: env) (a.put (some p) v) hp.2 (h.put (by simpa using hp.1) (.v v) v (fun _ => rfl))
    exact this

theorem zip_toArray (ps : Array Nat) (vs : List Value) (t : Array Value) : (ps.zip vs.toArray).foldl (fun t (p, v) => t.setIfInBounds p v) t = (ps.toList.zip vs).foldl (fun t (p, v) => t.setIfInBounds p v) t := by
  rw [← Array.foldl_toList]
  simp

theorem marks_nil (L : List Assn) : L ++ marks [] = L := by simp [marks]

/-- A loop over a function. -/
theorem xrange {P : Program} {T : Tab} [c : TabC P T] {n : Nat} {g : Operand} {ps : Array Tmp} {assign body : Code} {env : Env} {L L' : List Assn} {X : Exit → Env → List Assn → Prop} {f : FuncId} {caps : Array Value}
    {Y : Nat → List Value → List Assn → Prop} {N : Nat → Prop} {Lf : List Assn} {Lz : List Assn → Prop} (hg : evv env g = some (.func (.func f) #[] caps)) (hps : (ps.toList.all fun p => Nat.blt p n) = true) (hit : IterSpec P f caps.toList Y N Lf Lz)
    {ι : Type} (M : ι → List Assn) (φ : Nat → ι → Prop) (i0 : ι) (h0 : φ 0 i0) [t : Takes (M i0 ++ Lf) L L']
    (hY : ∀ j vs E, Y j vs E → vs.length = ps.size)
    {κ : Type} (S : κ → List Assn) (ψ : Exit → κ → Prop)
    (round : ∀ j vs E i, Y j vs E → φ j i → vc P T n assign (putAll ps.toList vs env) (E ++ M i) fun e env1 L1 => match e with
      | .normal => vc P T n body env1 L1 fun e _ L2 => match e with
        | .normal => ∃ i', φ (j + 1) i' ∧ Ent L2 (M i')
        | e => (jumpOf e).isSome = true ∧ ∃ k, ψ e k ∧ Ent L2 (S k)
      | _ => False)
    (done : ∀ j i L2, N j → φ j i → Lz L2 → X .normal env (M i ++ (L2 ++ L')))
    (stop : ∀ e k L2, (jumpOf e).isSome = true → ψ e k → Lz L2 → X e env (S k ++ (L2 ++ L'))) : CodeVC P T n (.rangeFunc g ps assign body) env L X := by
  refine ⟨fun ro R a w ⟨ms, R1, hf, hw, hb, hr⟩ => ?_⟩
  have hgv := hf.agrees.evv hg
  have o1 := t.out w R1 hw
  refine wpIn_rangeFunc ?_
  intro fn _
  -- the record
  obtain ⟨D, rec, hrec⟩ : ∃ (D : Nat) (rec : LoopState → Option Code → Loop), (∃ l mark w1, (Instr.enterLoop fn a.tmps ps assign body (wideR ro).round).run P w = .ok (l, mark) w1 ∧
      (∃ ms2, mark ++ a.defers = mk ms2 ∧ (∀ l, ro = some l → ms2 = []) ∧ ∃ R2, Own w1 (obj l (.loop (rec .ready none)) :: (M i0 ++ Lf ++ L')) R2 ∧ (∀ w' L'', Own w' L'' R2 → Own w' (L'' ++ marks ms2) R) ∧ (∀ l, ro = some l → ∃ r, R2.pv l = some (.loop r)))) ∧
      rec = fun st pe => { state := st, pending := pe, fn, tmps := a.tmps, params := ps, assign, body, defers := D } := by
    cases ro with
    | none =>
      refine ⟨w.heap.size, _, ⟨_, _, _, run_enterLoop_outer fn a.tmps ps assign body, w.heap.size :: ms, by rw [hf.defs]; rfl, (fun l e => by cases e), ?_⟩, rfl⟩
      have o2 := (o1.alloc (.deferred (some []))).alloc (.loop { state := .ready, pending := none, fn, tmps := a.tmps, params := ps, assign, body, defers := w.heap.size })
      have hs : (w.alloc (.deferred (some []))).heap.size = w.heap.size + 1 := by simp
      rw [hs] at o2
      have o3 := Ent.swap _ _ _ _ _ o2
      obtain ⟨R2, o4, hp, back⟩ := o3.aside
      refine ⟨R2, o4, fun w' L'' o => ?_, fun l e => by cases e⟩
      have o5 := hb _ _ (back _ _ o)
      have : Ent (obj w.heap.size (.deferred (some [])) :: L'' ++ marks ms) (L'' ++ marks (w.heap.size :: ms)) := by
        show Ent (obj w.heap.size (.deferred (some [])) :: (L'' ++ marks ms)) (L'' ++ obj w.heap.size (.deferred (some [])) :: marks ms)
        clear o o5
        induction L'' with
        | nil => exact Ent.refl _
        | cons A L'' ih => exact (Ent.swap _ _ _).trans (Ent.cons A ih)
      exact this _ _ o5
    | some l₀ =>
      obtain ⟨rfl, r₀, hr₀⟩ := hr l₀ rfl
      have hl₀ : w.heap[l₀]? = some (.loop r₀) := by
        obtain ⟨F, hs, f, p, q, s, e⟩ := o1
        exact s.2.2.1 _ _ hr₀
      refine ⟨r₀.defers, _, ⟨_, _, _, run_enterLoop_inner hl₀ fn a.tmps ps assign body, [], by rw [hf.defs]; rfl, (fun _ _ => rfl), R1, ?_, hb, fun l e => ⟨r₀, by cases e; exact hr₀⟩⟩, rfl⟩
      exact o1.alloc _
  obtain ⟨⟨l, mark, w1, he, ms2, hmk, hms2, R2, o2, back2, hpv⟩, hrec⟩ := hrec
  -- what a round takes
  have htk : Takes1 P l Y (fun j L1 => ∃ i, φ j i ∧ L1 = obj l (.loop (rec .ready none)) :: M i) (fun L1 => ∃ e jc k, jumpOf e = some jc ∧ ψ e k ∧ L1 = obj l (.loop (rec .done (some jc))) :: S k) := by
    intro j vs E hy L1 ⟨i, hi, hL1⟩
    subst hL1
    refine ⟨fun w R o => ?_⟩
    have front : Ent (E ++ obj l (.loop (rec .ready none)) :: M i) (obj l (.loop (rec .ready none)) :: (E ++ M i)) := Ent.front E _ _
    have o := front _ _ o
    have hl := o.of_obj
    have hyr := run_yield (P := P) (args := vs.toArray) hl (by rw [hrec]; simpa using hY j vs E hy)
    refine ⟨_, _, _, _, hyr, roundIn_of_wpIn trivial ?_⟩
    obtain ⟨Ra, oa, hpa, backa⟩ := o.aside
    have hfa : Fr { tmps := (((rec .ready none).params.zip vs.toArray).foldl (fun t (p, v) => t.setIfInBounds p v) (rec .ready none).tmps), defers := [] } n (putAll ps.toList vs env) [] := by
      rw [hrec]
      simp only
      rw [zip_toArray]
      exact Fr.putAll ps.toList vs env { tmps := a.tmps, defers := [] } hps ⟨hf.size, hf.le, hf.get, rfl⟩
    have ha := vc_sound c.ok (ro := some l) (R := Ra) (rec .ready none).assign _ _ _ (by rw [hrec]; exact round j vs E i hy hi) _ w ⟨[], Ra, hfa, oa, (fun w' L' o => by rw [marks_nil]; exact o), fun l' e => by cases e; exact ⟨rfl, _, hpa⟩⟩
    refine wpIn_mono ha ?_
    rintro e a1 w1 ⟨env1, L1, ⟨ms1, R1', hf1, ow1, hb1, hr1⟩, hq⟩
    cases e with
    | normal =>
      obtain ⟨rfl, -⟩ := hr1 l rfl
      have o3 := backa _ _ (by have := hb1 _ _ ow1; rw [marks_nil] at this; exact this)
      have hl3 := o3.of_obj
      refine ⟨_, run_beginRound hl3 (by rw [hrec]), ?_⟩
      have o4 : Own _ (obj l (.loop { rec .ready none with state := .busy }) :: L1) R := o3.putObj
      obtain ⟨Rb, ob, hpb, backb⟩ := o4.aside
      have hbv := vc_sound c.ok (ro := some l) (R := Rb) (rec .ready none).body _ _ _ (by rw [hrec]; exact hq) a1 _ ⟨[], Rb, hf1, ob, (fun w' L' o => by rw [marks_nil]; exact o), fun l' e => by cases e; exact ⟨rfl, _, hpb⟩⟩
      refine wpIn_mono hbv ?_
      rintro e2 a2 w2 ⟨env2, L2, ⟨ms2', R2', hf2, ow2, hb2, hr2⟩, hq2⟩
      obtain ⟨rfl, -⟩ := hr2 l rfl
      have o5 := backb _ _ (by have := hb2 _ _ ow2; rw [marks_nil] at this; exact this)
      have hl5 := o5.of_obj
      have fin : ∀ jump, (Instr.endRound l jump).run P w2 = .ok (.bool jump.isNone) (w2.putObj l (.loop (rec (if jump.isNone then .ready else .done) jump))) := fun jump => by
        have := run_endRound (P := P) jump hl5
        rw [hrec] at this ⊢
        exact this
      have jmp : ∀ (ex : Exit) (jc : Code), jumpOf ex = some jc → ((jumpOf ex).isSome = true ∧ ∃ k, ψ ex k ∧ Ent L2 (S k)) → ∃ v w', (Instr.endRound l (some jc)).run P w2 = .ok v w' ∧
          ∃ L', Own w' L' R ∧ ((Ending.returned v = .returned (.bool true) ∧ ∃ i, φ (j + 1) i ∧ L' = obj l (.loop (rec .ready none)) :: M i) ∨ (Ending.returned v = .returned (.bool false) ∧ ∃ e jc k, jumpOf e = some jc ∧ ψ e k ∧ L' = obj l (.loop (rec .done (some jc))) :: S k)) := by
        rintro ex jc hj ⟨-, k, hk, hent⟩
        exact ⟨_, _, fin (some jc), obj l (.loop (rec .done (some jc))) :: S k, Ent.cons _ hent _ _ o5.putObj, .inr ⟨rfl, ex, jc, k, hj, hk, rfl⟩⟩
      cases e2 with
      | normal =>
        obtain ⟨i', hi', hent⟩ := hq2
        exact ⟨_, _, fin none, obj l (.loop (rec .ready none)) :: M i', Ent.cons _ hent _ _ o5.putObj, .inl ⟨rfl, i', hi', rfl⟩⟩
      | ret => exact jmp .ret .ret rfl hq2
      | exit id => exact jmp (.exit id) (.exit id) rfl hq2
      | goto tt => exact jmp (.goto tt) (.goto tt) rfl hq2
      | panic ch => exact absurd hq2.1 (by simp [jumpOf])
      | outgrown => exact absurd hq2.1 (by simp [jumpOf])
    | _ => exact hq.elim
  have spec := hit l _ _ htk (obj l (.loop (rec .ready none)) :: M i0) ⟨i0, h0, rfl⟩
  obtain ⟨R3, o3, back3⟩ := Own.frame (L := (obj l (.loop (rec .ready none)) :: M i0) ++ Lf) (M := L') (R := R2) (w := w1) (by
    have : (obj l (.loop (rec .ready none)) :: M i0) ++ Lf ++ L' = obj l (.loop (rec .ready none)) :: (M i0 ++ Lf ++ L') := rfl
    rw [this]; exact o2)
  have hcall := spec.out w1 R3 o3
  refine ⟨l, mark, w1, { target := .fn (.func f) caps, args := #[.func (.yield l) #[] #[]] }, w1, f, #[.func (.yield l) #[] #[]] ++ caps, w1, he, ?_, fun _ _ => trivial, ?_, (fun h => by cases h), callsIn_wideR.2 ?_⟩
  · simp only [resolve, hgv]
    simp [go_sem]
  · simp [invoke, go_sem, spec.can]
  · have hargs : (Value.func (.yield l) #[] #[] :: caps.toList).toArray = #[.func (.yield l) #[] #[]] ++ caps := by simp
    rw [hargs] at hcall
    refine hcall.mono ?_
    rintro e w3 ⟨Lx, ox, v, rfl, L1, L2, rfl, hLz, hcz⟩
    have hfr : Fr { a with defers := mark ++ a.defers } n env ms2 := ⟨hf.size, hf.le, hf.get, hmk⟩
    rcases hcz with ⟨j, hN, i, hi, rfl⟩ | ⟨e, jc, k, hj, hk, rfl⟩
    · have o4 := back3 _ _ ox
      have hl4 := o4.of_obj
      have hend := run_endLoop (P := P) hl4 (by rw [hrec]; simp)
      rw [hrec] at hend
      refine ⟨none, _, hend, env, M i ++ (L2 ++ L'), ⟨ms2, R2, hfr, ?_, back2, fun l' e => ⟨hms2 l' e, hpv l' e⟩⟩, done j i L2 hN hi hLz⟩
      have o5 := Ent.drop _ _ _ _ (o4.putObj (o' := .loop { rec .ready none with state := .exhausted }))
      rw [hrec] at o5
      rw [← List.append_assoc]
      exact o5
    · have o4 := back3 _ _ ox
      have hl4 := o4.of_obj
      have hend := run_endLoop (P := P) hl4 (by rw [hrec]; simp)
      rw [hrec] at hend
      have hg : Good ro R n env (S k ++ (L2 ++ L')) { a with defers := mark ++ a.defers } (w3.putObj l (.loop { rec .done (some jc) with state := .exhausted })) := by
        refine ⟨ms2, R2, hfr, ?_, back2, fun l' e => ⟨hms2 l' e, hpv l' e⟩⟩
        have o5 := Ent.drop _ _ _ _ (o4.putObj (o' := .loop { rec .done (some jc) with state := .exhausted }))
        rw [← List.append_assoc]
        exact o5
      have hst := stop e k L2 (by rw [hj]; rfl) hk hLz
      rw [hrec] at hg
      refine ⟨some jc, _, hend, ?_⟩
      cases e with
      | ret => simp only [jumpOf, Option.some.injEq] at hj; subst hj; exact wpIn_ret (Q := XP ro R n X) ⟨env, _, hg, hst⟩
      | exit id => simp only [jumpOf, Option.some.injEq] at hj; subst hj; exact wpIn_exit (Q := XP ro R n X) ⟨env, _, hg, hst⟩
      | goto t => simp only [jumpOf, Option.some.injEq] at hj; subst hj; exact wpIn_goto (Q := XP ro R n X) ⟨env, _, hg, hst⟩
      | _ => simp [jumpOf] at hj
end Go.X
