/- []byte of a constant text. A library; no statement of the seat is proved here. -/
import Derived.Test.YtbgjlghhcclooaaXSet
namespace Go.X
open Go

theorem xcnv_ss {P : Program} {T : Tab} [c : TabC P T] {s : TypeId} {ts te : TyI} {b n cp : Nat} {el : TypeId} {cs : List Value} {L L' : List Assn} {K : Ending → List Assn → Prop} [t' : TakePts b L el cs L'] (xs : List UInt8)
    (h1 : tk T s = some ts) (h2 : Nat.beq ts.kind 5 = true) (h5 : tk T ts.elem = some te) (h6 : te.zero = [.int .u8 0]) (h7 : Nat.beq te.kind 1 = true) (hc : xs.flatMap eB = cs) (hn : n = xs.length) (hcp : cp = xs.length) (hl : xs.length ≤ 2147483648)
    (q : K (.returned (.slice (some ⟨b, 0, none⟩) n cp)) (sof 1 eB (some ⟨b, 0, none⟩) cp xs :: L')) : VC P (.cnv s s (.slice (some ⟨b, 0, none⟩) n cp)) L K := by
  refine ⟨fun w R o => ?_⟩
  subst hn; subst hcp; subst hc
  obtain ⟨dd, hdd, hk', he⟩ := (c.ok s ts h1).desc
  obtain ⟨e, rfl⟩ := kind_slice (hk'.trans (Nat.eq_of_beq_eq_true h2))
  simp only at he
  subst he
  obtain ⟨de, hde, hk'', hze⟩ := (c.ok _ te h5).desc
  obtain ⟨kk, rfl⟩ := kind_int (hk''.trans (Nat.eq_of_beq_eq_true h7))
  obtain ⟨nn, hze⟩ := hze
  rw [h6] at hze
  simp only [List.cons.injEq, Value.int.injEq, and_true] at hze
  obtain ⟨rfl, -⟩ := hze
  have o1 := t'.out w R o
  have hb := o1.of_obj
  let arr : Array Value := (xs.flatMap eB).toArray
  have hsz : (w.shape? b) = some (el, arr.size) := by simp [World.shape?, hb, arr]
  let w2 := w.freeze { block := b, off := arr.size } 1
  have run : (Eff.next (.cnv s s (.slice (some ⟨b, 0, none⟩) xs.length xs.length))).run P w = .ok (.value (.slice (some ⟨b, 0, none⟩) xs.length xs.length)) w2 := by
    have hsh : (Sem.shape b Sem.pure).run P w = .ok (some (el, arr.size)) w := by simp [Sem.run, hsz]
    have hm : (markStringish ⟨b, 0, none⟩).run P w = .ok () w2 := by
      simp only [markStringish, shape, Sem.run_bind]
      rw [hsh]
      simp only [Result.andThen_ok, freeze]
      rfl
    simp [Eff.next, convert, underlying_run hdd, underlying_run hde, hm]
  rw [run]
  refine ⟨_, ?_, q⟩
  have hw2 : w2.heap[b]? = some (.cells arr el (arr.size, arr.size + 1)) := by
    show ((if (1 : Nat) = 0 then w else { w with heap := w.heap.modify b _ }) : World).heap[b]? = _
    simp only [Nat.one_ne_zero, if_false]
    obtain ⟨hlt, hv⟩ := Array.getElem?_eq_some_iff.1 hb
    rw [Array.getElem?_eq_getElem (by simpa using hlt), Array.getElem_modify_self, hv]
    rfl
  have hoth : ∀ c, c ≠ b → w2.heap[c]? = w.heap[c]? := by
    intro c hc
    show ((if (1 : Nat) = 0 then w else { w with heap := w.heap.modify b _ }) : World).heap[c]? = _
    simp only [Nat.one_ne_zero, if_false, Array.getElem?_modify, if_neg (Ne.symm hc)]
  have o2 := o1.write hw2 hoth rfl rfl rfl
  have o3 := Ent.freeze _ _ L' w2 R o2
  refine Ent.head (A := frz b (.cells arr el (arr.size, arr.size + 1))) (B := sof 1 eB (some ⟨b, 0, none⟩) xs.length xs) (fun F h g => ⟨g.1, fun y _ => fineB y, Nat.le_refl _, le_maxLen hl, .inr ⟨_, 0, arr, _, _, rfl, g.2, ?_⟩⟩) L' w2 R o3
  intro j v hj
  rw [Nat.zero_add]
  simpa [arr] using hj

/-- A loop is left by one exit alone: there, the state is that of an index; what comes behind is met from there on. -/
theorem xcut {P : Program} {T : Tab} {n : Nat} {c : Code} {env : Env} {L : List Assn} {X : Exit → Env → List Assn → Prop} {ι : Type} (lbl : Nat) (E : ι → Env) (M : ι → List Assn) (φ : ι → Prop) (_ : ∀ i, noD (E i) = true)
    (h1 : CodeVC P T n c env L fun e env' L' => e = .exit lbl ∧ ∃ i, At E M φ i env' L') (h2 : ∀ i, φ i → X (.exit lbl) (E i) (M i)) : CodeVC P T n c env L X := by
  refine ⟨fun ro R a w g => ?_⟩
  refine wpIn_mono (h1.out ro R a w g) ?_
  rintro e a₁ w₁ ⟨env₁, L₁, hg₁, rfl, i, hat⟩
  exact ⟨E i, M i, hg₁.sub hat.sub hat.own, h2 i hat.fact⟩
end Go.X
