/- Arrays in memory, make, copy, parts of what is owned. A library; no statement of the seat is proved here. -/
import Derived.Test.YtbgjlghhcclooaaXRng
namespace Go.X
open Go

/-- The length of an array type, and how many cells an element has. -/
def arrN (T : Tab) (t n k : Nat) : Bool := match tk T t with
  | some { kind := 6, elem, offs := [m], .. } => Nat.beq m n && (match tk T elem with | some i => Nat.beq i.size k | none => false)
  | _ => false
theorem arrN_spec {P : Program} {T : Tab} (hT : TabOK P T) {t n k : Nat} (h : arrN T t n k = true) : ∃ e, P.underlying t = some (.array n e) ∧ ∀ w, (sizeOf e).run P w = .ok k w := by
  unfold arrN at h
  split at h
  · rename_i sz by_ el m szs z hi
    simp only [Bool.and_eq_true] at h
    obtain ⟨h1, h2⟩ := h
    obtain ⟨d, hd, hk, hx⟩ := (hT t _ hi).desc
    obtain ⟨n', e, rfl⟩ := kind_array hk
    simp only [List.cons.injEq, and_true] at hx
    obtain ⟨rfl, rfl⟩ := hx
    have := Nat.eq_of_beq_eq_true h1
    subst this
    split at h2
    · rename_i i hi2
      have hs := Nat.eq_of_beq_eq_true h2
      exact ⟨_, hd, fun w => by rw [sizeOf_run (hT _ i hi2) w, hs]⟩
    · cases h2
  · cases h

theorem idxa_run {P : Program} {T : Tab} (hT : TabOK P T) {t n k b off : Nat} {kk : IntKind} {i : Int} (h1 : arrN T t n k = true) (hi : 0 ≤ i ∧ i < n) (w : World) :
    (Eff.next (.idx t (.pointer (some ⟨b, off, none⟩)) (.int kk i))).run P w = .ok (.value (.pointer (some ⟨b, off + i.toNat * k, none⟩))) w := by
  obtain ⟨e, hd, hsz⟩ := arrN_spec hT h1
  simp [Eff.next, Instr.indexAt, asIntOf, underlying_run hd, Instr.sureAddr, hi, hsz, add_at]
/-- The place of an array's element. -/
theorem xidxa {P : Program} {T : Tab} [c : TabC P T] {t b off : Nat} {kk : IntKind} {i : Int} {L : List Assn} {K : Ending → List Assn → Prop} (n k : Nat) (h1 : arrN T t n k = true) (hi : 0 ≤ i ∧ i < n)
    (q : K (.returned (.pointer (some ⟨b, off + i.toNat * k, none⟩))) L) : VC P (.idx t (.pointer (some ⟨b, off, none⟩)) (.int kk i)) L K := by
  refine ⟨fun w R o => ?_⟩
  rw [idxa_run c.ok h1 hi]
  exact ⟨L, o, q⟩
theorem hidxa {P : Program} {T : Tab} [c : TabC P T] {t b off : Nat} {kk : IntKind} {i : Int} {Lh L : List Assn} {K : SV → List Assn → Prop} (n k : Nat) (h1 : arrN T t n k = true) (hi : 0 ≤ i ∧ i < n)
    (q : K (.v (.pointer (some ⟨b, off + i.toNat * k, none⟩))) L) : HVC P (.idx t (.pointer (some ⟨b, off, none⟩)) (.int kk i)) Lh L K :=
  ⟨_, L, fun w _ _ => idxa_run c.ok h1 hi w, Ent.refl L, q⟩
theorem pidxa {P : Program} {T : Tab} [c : TabC P T] {t b off : Nat} {kk : IntKind} {i : Int} {L : List Assn} {K : SV → List Assn → Prop} (n k : Nat) (h1 : arrN T t n k = true) (hi : 0 ≤ i ∧ i < n)
    (q : K (.v (.pointer (some ⟨b, off + i.toNat * k, none⟩))) L) : PVC P (.idx t (.pointer (some ⟨b, off, none⟩)) (.int kk i)) L K :=
  ⟨_, fun w => idxa_run c.ok h1 hi w, q⟩

/-- A load, the place told anew. -/
theorem xldo {P : Program} {T : Tab} [c : TabC P T] {t : TypeId} {b off : Nat} {L L' : List Assn} {e : TypeId} {cs : List Value} {K : Ending → List Assn → Prop} (off' : Nat) (v : Value) [t' : TakePts b L e cs L']
    (ho : off = off') (h1 : one T t = true) (h2 : cs[off']? = some v) (k : K (.returned v) L) : VC P (.load t ⟨b, off, none⟩) L K := by
  subst ho; exact xld h1 h2 k
theorem hldo {P : Program} {T : Tab} [c : TabC P T] {t : TypeId} {b off : Nat} {Lh L L' : List Assn} {e : TypeId} {cs : List Value} {K : SV → List Assn → Prop} (off' : Nat) (v : Value) [t' : TakePts b Lh e cs L']
    (ho : off = off') (h1 : one T t = true) (h2 : cs[off']? = some v) (k : K (.v v) L) : HVC P (.load t ⟨b, off, none⟩) Lh L K := by
  subst ho; exact hld h1 h2 k

/-- A store at a place that is reckoned. -/
theorem xsto {P : Program} {T : Tab} [c : TabC P T] {t : TypeId} {i : TyI} {b off : Nat} {v : Value} {L L' : List Assn} {e : TypeId} {cs : List Value} {K : Ending → List Assn → Prop} (off' : Nat) (cs' : List Value) [t' : TakePts b L e cs L']
    (ho : off = off') (hl : off' < cs.length) (hc : cs.set off' v = cs') (h1 : tk T t = some i) (h2 : Nat.beq i.size 1 = true) (h3 : okCell v = true) (k : K (.returned undef) (pts b e cs' :: L')) : VC P (.store t ⟨b, off, none⟩ v) L K := by
  subst ho; subst hc
  have hv : cellsL v = [v] := by cases v <;> first | rfl | (simp [okCell] at h3)
  have u : Upd cs off (cellsL v) (cs.set off v) := ⟨by
    rw [hv]
    refine ⟨set_eq_take cs off v hl, by simp; omega⟩⟩
  exact xsts h1 (by rw [hv]; exact (Nat.eq_of_beq_eq_true h2).symm) (by rw [hv]; simp [okCells, h3]) k

/-- A struct or an array of its parts: asks nothing of the world. -/
theorem bld_run {P : Program} {T : Tab} (hT : TabOK P T) {t : TypeId} {ti : TyI} {ps : List (Nat × Value)} {cells : List Value} (h1 : tk T t = some ti) (h2 : Nat.beq ti.kind 7 = true)
    (hc : fillL (places ti.offs ti.szs) ti.zero ps = some cells) (w : World) : (Eff.next (.bld t ps)).run P w = .ok (.value (.agg cells.toArray)) w := by
  obtain ⟨d, hd, hk, hf⟩ := (hT t ti h1).desc
  obtain ⟨fs, rfl⟩ := kind_struct (hk.trans (Nat.eq_of_beq_eq_true h2))
  obtain ⟨x, hx, -, -, hz⟩ := (hT t ti h1).info
  obtain ⟨f1, f2, f3⟩ := hf
  cases hxz : x.zero with
  | none => rw [hxz] at hz; cases hz
  | some z =>
    rw [hxz] at hz
    simp only [Option.map_some, Option.some.injEq] at hz
    have hm := mapM_places (P := P) fs.toList _ _ f1 f3 f2 w
    have hfill := fill_eq _ ps _ hc
    have hpl : (fun i => (ti.offs.zip ti.szs).toArray[i]?) = places ti.offs ti.szs := by
      funext i
      simp only [places, List.getElem?_toArray, List.zip, List.getElem?_zipWith]
      cases ti.offs[i]? <;> cases ti.szs[i]? <;> rfl
    simp only [Eff.next, Instr.build, Sem.run_bind, zeroValue, typeInfo_run hx, Result.andThen_ok, hxz, Sem.run_pure, underlying_run hd]
    rw [Array.mapM_eq_mapM_toList]
    simp only [Sem.run_map, hm, Result.andThen_ok, hz, hpl, hfill, Sem.run_pure]
theorem pbld {P : Program} {T : Tab} [c : TabC P T] {t : TypeId} {ti : TyI} {ps : List (Nat × Value)} {cells : List Value} {L : List Assn} {K : SV → List Assn → Prop} (h1 : tk T t = some ti) (h2 : Nat.beq ti.kind 7 = true)
    (hc : fillL (places ti.offs ti.szs) ti.zero ps = some cells) (q : K (.v (.agg cells.toArray)) L) : PVC P (.bld t ps) L K := ⟨_, fun w => bld_run c.ok h1 h2 hc w, q⟩

/-- An array of its parts, one cell an element. -/
theorem blda_run {P : Program} {T : Tab} (hT : TabOK P T) {t n k : Nat} {ti : TyI} {ps : List (Nat × Value)} {cells : List Value} (h1 : tk T t = some ti) (h2 : arrN T t n k = true)
    (hc : fillL (fun i => some (i * k, k)) ti.zero ps = some cells) (w : World) : (Eff.next (.bld t ps)).run P w = .ok (.value (.agg cells.toArray)) w := by
  obtain ⟨e, hd, hsz⟩ := arrN_spec hT h2
  obtain ⟨x, hx, -, -, hz⟩ := (hT t ti h1).info
  cases hxz : x.zero with
  | none => rw [hxz] at hz; cases hz
  | some z =>
    rw [hxz] at hz
    simp only [Option.map_some, Option.some.injEq] at hz
    have hfill := fill_eq _ ps _ hc
    simp [Eff.next, Instr.build, zeroValue, typeInfo_run hx, hxz, underlying_run hd, hsz, hz, hfill]
theorem xblda {P : Program} {T : Tab} [c : TabC P T] {t : Nat} {ti : TyI} {ps : List (Nat × Value)} {cells : List Value} {L : List Assn} {K : Ending → List Assn → Prop} (n k : Nat) (h1 : tk T t = some ti) (h2 : arrN T t n k = true)
    (hc : fillL (fun i => some (i * k, k)) ti.zero ps = some cells) (q : K (.returned (.agg cells.toArray)) L) : VC P (.bld t ps) L K :=
  ⟨fun w R o => by rw [blda_run c.ok h1 h2 hc]; exact ⟨L, o, q⟩⟩
theorem pblda {P : Program} {T : Tab} [c : TabC P T] {t : Nat} {ti : TyI} {ps : List (Nat × Value)} {cells : List Value} {L : List Assn} {K : SV → List Assn → Prop} (n k : Nat) (h1 : tk T t = some ti) (h2 : arrN T t n k = true)
    (hc : fillL (fun i => some (i * k, k)) ti.zero ps = some cells) (q : K (.v (.agg cells.toArray)) L) : PVC P (.bld t ps) L K := ⟨_, fun w => blda_run c.ok h1 h2 hc w, q⟩
end Go.X
