/- Scopes with labels: passed straight, or left by a jump ahead. A library; no statement of the seat is proved here. -/
import Derived.Test.YtbgjlghhcclooaaXRng
namespace Go.X
open Go

theorem Own.over {w : World} {N L : List Assn} {R : Rest} (o : Own w (N ++ L) R) : Own w L R := by
  induction N with
  | nil => exact o
  | cons A N ih => exact ih (Ent.drop A _ w R o)
instance (priority := 50) RdS.over {α : Type} {oa : Option Addr} {N L : List Assn} {k : Nat} {enc : α → List Value} {cap : Nat} {xs : List α} [r : RdS oa L α k enc cap xs] : RdS oa (N ++ L) α k enc cap xs :=
  ⟨fun w R o => r.out w R o.over⟩
instance (priority := 50) TakeVof.over {α : Type} {oa : Option Addr} {N L L' : List Assn} {e : TypeId} {k : Nat} {enc : α → List Value} {cap : Nat} {xs : List α} [t : TakeVof oa L α e k enc cap xs L'] :
    TakeVof oa (N ++ L) α e k enc cap xs (N ++ L') := ⟨(Ent.skip N t.out).trans (Ent.front N _ L')⟩
instance (priority := 50) HasSof.over {α : Type} {oa : Option Addr} {N L : List Assn} {k : Nat} {enc : α → List Value} {cap : Nat} {xs : List α} [r : HasSof oa L α k enc cap xs] : HasSof oa (N ++ L) α k enc cap xs :=
  ⟨(Ent.skip N r.out).trans (Ent.front N _ L)⟩

instance (priority := 35) Takes.both {N M L L1 L2 : List Assn} [t : Takes N L L1] [s : Takes M L1 L2] : Takes (N ++ M) L L2 := ⟨by
  rw [List.append_assoc]
  exact t.out.trans (Ent.skip N s.out)⟩

/-- A jump goes to its label, and on from there. -/
def ahead {F : Fence} {n : Nat} {P : Program} (c : Code) (Q : Exit → Act → World → Prop) : Exit → Act → World → Prop
  | .goto l, a, w => ∃ rest, findLabel c l = some rest ∧ rest.wpIn F n P (fun e a w => match e with
    | .goto _ => False
    | e => Q e a w) a w
  | e, a, w => Q e a w

section
variable {F : Fence} {m : Nat} {P : Program} {Q : Exit → Act → World → Prop} {a : Act} {w : World}

theorem stepR_scope {b : Frame} {a : Act} {k : List Item} {cs : List Frame} {w : World} {c : Code} : step P (lone (b.atR a (.code (.scope c) :: k)) cs w) = .next (lone (b.atR a (.code c :: .inScope c :: k)) cs w) :=
  step_lone_go (by simp [stepG, stepG.exec, Frame.atR])
theorem stepR_inScope {b : Frame} {a : Act} {k : List Item} {cs : List Frame} {w : World} {c : Code} : step P (lone (b.atR a (.inScope c :: k)) cs w) = .next (lone (b.atR a k) cs w) :=
  step_lone_go (by simp [stepG, stepG.exec, Frame.atR])

/-- How one leaves a scope: no jump is left. -/
theorem leave_scope {b : Frame} {a₁ : Act} {w₁ : World} {k : List Item} {cs : List Frame} {c : Code} {mm : Machine} {e : Exit} (hb : F.fn b.fn) (hr : F.room (cs.length + 1 + m)) (he : ∀ l, e ≠ .goto l) (hq : Q e a₁ w₁)
    (harr : ArrivesIn (Machine.fenced P F) P mm b (.inScope c :: k) cs e a₁ w₁) : ∃ e a' w', Q e a' w' ∧ ArrivesIn (Machine.fenced P F) P mm b k cs e a' w' := by
  cases e with
  | normal => exact ⟨.normal, a₁, w₁, hq, StepsIn.trans harr (.one (fenced_calm hb hr rfl) stepR_inScope)⟩
  | exit id =>
    have hx : exitTo id (.inScope c :: k) = exitTo id k := by simp [exitTo]
    exact ⟨.exit id, a₁, w₁, hq, fun k' hk => harr.1 k' (by rw [hx]; exact hk), fun h hk => harr.2 h (by rw [hx]; exact hk)⟩
  | goto l => exact absurd rfl (he l)
  | ret => exact ⟨_, a₁, w₁, hq, harr⟩
  | panic ch => exact ⟨_, a₁, w₁, hq, harr⟩
  | outgrown => exact ⟨_, a₁, w₁, hq, harr⟩

theorem wpIn_scope {c : Code} (h : c.wpIn F m P (ahead (F := F) (n := m) (P := P) c Q) a w) : (Code.scope c).wpIn F m P Q a w := by
  intro b k cs hro hb hr
  have h0 : (lone (b.atR a (.code (.scope c) :: k)) cs w).fenced P F := fenced_calm hb hr rfl
  obtain ⟨e, a₁, w₁, hq, harr⟩ := h b (.inScope c :: k) cs hro hb hr
  have key : ∃ e a' w', Q e a' w' ∧ ArrivesIn (Machine.fenced P F) P (lone (b.atR a (.code c :: .inScope c :: k)) cs w) b k cs e a' w' := by
    cases e with
    | goto l =>
      obtain ⟨rest, hf, hw⟩ := hq
      have hg : gotoIn l (.inScope c :: k) = some (.code rest :: .inScope c :: k) := by simp [gotoIn, hf]
      obtain ⟨e₂, a₂, w₂, hq₂, harr₂⟩ := hw b (.inScope c :: k) cs hro hb hr
      have := ArrivesIn.of_steps (harr.1 _ hg) harr₂
      cases e₂ with
      | goto l => exact hq₂.elim
      | _ => exact leave_scope hb hr (by simp) hq₂ this
    | _ => exact leave_scope hb hr (by simp) hq harr
  obtain ⟨e, a₁, w₁, hq, harr⟩ := key
  exact ⟨e, a₁, w₁, hq, .of_steps (.one h0 stepR_scope) harr⟩
end

theorem xgoto {P : Program} {T : Tab} {n l : Nat} {env : Env} {L : List Assn} {X : Exit → Env → List Assn → Prop} (h : X (.goto l) env L) : CodeVC P T n (.goto l) env L X :=
  ⟨fun _ _ _ _ hg => wpIn_goto ⟨env, L, hg, h⟩⟩

/-- How a scope is left. -/
def aheadX (P : Program) (T : Tab) (n : Nat) (c : Code) (X : Exit → Env → List Assn → Prop) : Exit → Env → List Assn → Prop
  | .goto l, env, L => ∃ rest, findLabel c l = some rest ∧ vc P T n rest env L fun e env L => match e with
    | .goto _ => False
    | e => X e env L
  | e, env, L => X e env L

theorem xscope {P : Program} {T : Tab} [t : TabC P T] {n : Nat} {c : Code} {env : Env} {L : List Assn} {X : Exit → Env → List Assn → Prop} (h : vc P T n c env L (aheadX P T n c X)) : CodeVC P T n (.scope c) env L X := by
  refine ⟨fun ro R a w hg => wpIn_scope (wpIn_mono (vc_sound t.ok c _ env L h a w hg) ?_)⟩
  rintro e a' w' ⟨env', L', hg', hx⟩
  cases e with
  | goto l =>
    obtain ⟨rest, hf, hv⟩ := hx
    refine ⟨rest, hf, wpIn_mono (vc_sound t.ok rest _ env' L' hv a' w' hg') ?_⟩
    rintro e2 a2 w2 ⟨env2, L2, hg2, hx2⟩
    cases e2 with
    | goto l => exact hx2
    | _ => exact ⟨env2, L2, hg2, hx2⟩
  | _ => exact ⟨env', L', hg', hx⟩

/-- What is owned, told in two parts. -/
theorem ent2 {A B L L' L'' : List Assn} [t : Takes A L L'] [s : Takes B L' L''] : Ent L (A ++ B) := t.out.trans (Ent.skip A s.ent)

/-- A remainder, in a statement whose order is open. -/
theorem prem {P : Program} {t : TypeId} {cx cy : Bool} {k : IntKind} {m n : Int} {L : List Assn} {K : SV → List Assn → Prop} (hn : n ≠ 0)
    (q : K (.v (.int k (m.tmod n))) L) : PVC P (.bin .rem t cx cy (.int k m) (.int k n)) L K :=
  ⟨_, fun w => by
    have hg : (eqGuard .rem t (opd cx (.int k m)) (opd cy (.int k n)) (.int k m) (.int k n)).run P w = .ok () w := rfl
    have e : (binOp .rem t (.int k m) (.int k n)).run P w = .ok (.int k (m.tmod n)) w := by simp [binOp, Op.intDiv, hn]
    simp [Eff.next, hg, e], q⟩
end Go.X
