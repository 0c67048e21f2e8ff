/- From the law's own start to assertions, and back: what comes in is shared; behind the call it reads as it did. A library; no statement of the seat is proved here. -/
import Derived.Test.YtbgjlghhcclooaaXSl
import Derived.ProofKit
import Derived.OpenShut
import Derived.ChangeOld
import Derived.Deep.Slices
import Derived.Carry
namespace Go.X
open Go Go.ChangeShapes Go.WideShapes Go.RowKit Go.Deep

def R0 (w : World) : Rest := ⟨hpOf w, Hp.emp, w.os, w.tape, w.output⟩

theorem fits_emp {F : Hp} {Ls : List Assn} (h : ∀ A ∈ Ls, A.holds F Hp.emp) : Fits F Ls (Ls.map fun _ => Hp.emp) := by
  induction Ls with
  | nil => exact .nil
  | cons A Ls ih => exact .cons (h A (.head _)) (ih fun B m => h B (.tail _ m))

theorem Own.start (w : World) {Ls : List Assn} (h : ∀ A ∈ Ls, A.holds (hpOf w) Hp.emp) : Own w Ls (R0 w) := by
  refine ⟨hpOf w, Ls.map fun _ => Hp.emp, fits_emp h, ?_, ?_, ⟨.refl _, .refl _, Hp.emp_le _, (Hp.emp_disj _).symm⟩, rfl, rfl, rfl⟩
  · rw [List.pairwise_map]
    exact List.pairwise_of_forall fun _ _ => Hp.emp_disj _
  · intro k m
    obtain ⟨A, _, rfl⟩ := List.mem_map.1 m
    exact ⟨Hp.emp_le _, Hp.emp_disj _, Hp.emp_disj _⟩

theorem Own.finish {w w' : World} {L : List Assn} (o : Own w' L (R0 w)) : Below w.heap.size w w' := by
  obtain ⟨F, hs, f, p, q, s, e⟩ := o
  have key : ∀ b x, w.heap[b]? = some x → w'.heap[b]? = some x := fun b x h => s.2.1 b x (s.1 b x h)
  refine ⟨e.1, e.2.1, e.2.2, ?_, fun k hk => ?_⟩
  · rcases Nat.eq_zero_or_pos w.heap.size with h0 | h0
    · omega
    · have hx := key (w.heap.size - 1) _ (Array.getElem?_eq_getElem (by omega))
      have := (Array.getElem?_eq_some_iff.1 hx).1
      omega
  · have hx := key k _ (Array.getElem?_eq_getElem hk)
    rw [hx, Array.getElem?_eq_getElem hk]

theorem lift_calls {P : Program} {f : FuncId} {args : List Value} {Ls : List Assn} (h : FnSpec P f args Ls (Ret fun v _ => v = .bool true)) (w : World) (hL : ∀ A ∈ Ls, A.holds (hpOf w) Hp.emp) :
    Calls P f args.toArray w fun e w' => e = .returned (.bool true) ∧ Below w.heap.size w w' :=
  (h.out w _ (Own.start w hL)).mono fun e w' ⟨L', o, v, he, hv⟩ => ⟨by rw [he, hv], o.finish⟩

section
variable {H : Type} {enc : TypeId × Value → H} {P : Program} {w : World} {base : Nat} {spare : Nat → Bool} {held : Bool}

/-- A slice that came in, as one that is shared. -/
theorem sof_of_slice {t e k : TypeId} {fuel : Nat} {v : Value} {y : DataW H × List MemPlace} {α : Type} (en : α → List Value) (φ : α → Prop) (ht : P.underlying t = some (.slice e)) (hk : P.cellsOf e = k) (hk0 : 0 < k)
    (each : ∀ n cs' z, DataW.trod enc P w base spare held n e cs' = some z → ∃ x : α, en x = cs' ∧ fine k (en x) ∧ φ x)
    (h : DataW.trod enc P w base spare held fuel t [v] = some y) : ∃ oa cap xs, v = .slice oa xs.length cap ∧ sofP k en oa cap xs (hpOf w) Hp.emp ∧ ∀ x ∈ xs, φ x := by
  rcases open_slice ht h with ⟨h0, -⟩ | ⟨a, len, cap, m, n, D, Pl, hcs, hb, hl, hm, hmm, -, hi⟩
  · simp only [List.cons.injEq, and_true] at h0
    exact ⟨none, 0, [], h0, ⟨rfl, (fun x m => by cases m), Nat.le_refl _, Nat.zero_le _, .inl rfl⟩, fun x m => by cases m⟩
  · simp only [List.cons.injEq, and_true] at hcs
    have hlm : len ≤ m := by rw [hmm]; split <;> omega
    -- the elements
    have ex : ∀ l, l ≤ len → ∃ xs : List α, xs.length = l ∧ (∀ x ∈ xs, fine k (en x) ∧ φ x) ∧ ∀ i x, xs[i]? = some x → ∀ f, f < k → w.cell? ((a.add (i * k)).add f) = (en x)[f]? := by
      intro l
      induction l with
      | zero => intro _; exact ⟨[], rfl, (fun x m => by cases m), fun i x h => by simp at h⟩
      | succ l ih =>
        intro hl'
        obtain ⟨xs, h1, h2, h3⟩ := ih (by omega)
        obtain ⟨cs', hc, htr⟩ := hi l (by omega)
        rw [hk] at hc
        obtain ⟨-, hlen, hat⟩ := World.cells?_some hc
        obtain ⟨x, hx, hf, hφ⟩ := each n cs' _ htr
        refine ⟨xs ++ [x], by simp [h1], ?_, ?_⟩
        · intro z hz
          rcases List.mem_append.1 hz with hz | hz
          · exact h2 z hz
          · obtain rfl := List.mem_singleton.1 hz
            exact ⟨hf, hφ⟩
        · intro i z hz f hf'
          by_cases hil : i < xs.length
          · rw [List.getElem?_append_left hil] at hz
            exact h3 i z hz f hf'
          · rw [List.getElem?_append_right (by omega)] at hz
            have hi0 : i - xs.length = 0 := by
              have := (List.getElem?_eq_some_iff.1 hz).1
              simp only [List.length_singleton] at this
              omega
            rw [hi0] at hz
            simp only [List.getElem?_cons_zero, Option.some.injEq] at hz
            subst hz
            obtain rfl : i = l := by omega
            rw [hat f hf', hx]
    obtain ⟨xs, h1, h2, h3⟩ := ex len (Nat.le_refl _)
    refine ⟨some a, cap, xs, by rw [hcs, h1], ⟨rfl, fun x m => (h2 x m).1, by omega, hm, ?_⟩, fun x m => (h2 x m).2⟩
    rcases Nat.eq_zero_or_pos len with h0 | h0
    · left
      exact List.eq_nil_of_length_eq_zero (by omega)
    · right
      have hx0 : xs[0]? = some xs[0] := List.getElem?_eq_getElem (by omega)
      have hf0 := (h2 _ (List.mem_of_getElem? hx0)).1.1
      have hc0 := h3 0 _ hx0 0 hk0
      rw [Nat.zero_mul, List.getElem?_eq_getElem (show 0 < (en xs[0]).length by rw [hf0]; exact hk0)] at hc0
      have ha0 : (a.add 0).add 0 = a := by simp [Addr.add]
      rw [ha0] at hc0
      obtain ⟨b, off, sp⟩ := a
      unfold World.cell? at hc0
      simp only at hc0
      cases hb' : w.heap[b]? with
      | none => rw [hb'] at hc0; cases hc0
      | some o =>
        rw [hb'] at hc0
        cases o with
        | cells arr e' fz =>
          simp only at hc0
          cases sp with
          | some s => simp at hc0
          | none =>
            refine ⟨b, off, arr, e', fz, rfl, hb', ?_⟩
            intro j v' hj
            have hfine : ∀ x ∈ xs, fine k (en x) := fun x m => (h2 x m).1
            have hlt := (List.getElem?_eq_some_iff.1 hj).1
            rw [flat_length hfine] at hlt
            have hq : j / k < xs.length := (Nat.div_lt_iff_lt_mul hk0).2 hlt
            have hr : j % k < k := Nat.mod_lt _ hk0
            have hxq : xs[j / k]? = some xs[j / k] := List.getElem?_eq_getElem hq
            have hfq := hfine _ (List.mem_of_getElem? hxq)
            have hv0 : (en xs[j / k])[j % k]? = some ((en xs[j / k])[j % k]'(by rw [hfq.1]; exact hr)) := List.getElem?_eq_getElem _
            have hfl := flat_get hfine hxq hv0
            rw [Nat.mul_comm, Nat.div_add_mod] at hfl
            rw [hfl] at hj
            have hcell := h3 _ _ hxq _ hr
            rw [hv0, hj] at hcell
            rw [add_at, add_at, cell_of hb'] at hcell
            rw [← hcell, Nat.add_assoc]
            congr 2
            rw [Nat.mul_comm (j / k), Nat.div_add_mod]
        | _ => simp at hc0

/-- A byte. -/
theorem byte_of {n : Int} {v : Value} (h : v = .int .u8 n) (hw : (Lit.int .u8 n).wf = true) : ∃ x : UInt8, v = .int .u8 (x.toNat : Int) := by
  have : 0 ≤ n ∧ n ≤ 255 := by simpa [Lit.wf, IntKind.min, IntKind.max, IntKind.signed, IntKind.bits] using hw
  refine ⟨UInt8.ofNat n.toNat, ?_⟩
  rw [h, UInt8.toNat_ofNat', Nat.mod_eq_of_lt (by omega)]
  congr 1
  omega

end
end Go.X
