/- The row of TopWired, out of its walk: whatever the input, it returns true, and the input reads as it did. No condition. -/
import Derived.Test.YtbgjlghhcclooaaW6c
import Derived.Test.YtbgjlghhcclooaaXLift
import Derived.SizedLaws
import Derived.Test.YtbgjlghhcclooaaRows
namespace Go.X
open Go Go.Proofs Go.ChangeShapes Go.WideShapes Go.ChangeAt Go.RowKit

theorem list3 {α : Type} {l : List α} (h : l.length = 3) : ∃ a b c, l = [a, b, c] := by
  match l, h with
  | [a, b, c], _ => exact ⟨a, b, c, rfl⟩
theorem cells1 : Try.prog.cellsOf 5 = 1 := by kernel_rfl
theorem cellsI : Try.prog.cellsOf 2 = 1 := by kernel_rfl
theorem cellsS : Try.prog.cellsOf 24 = 1 := by kernel_rfl
theorem cells3 : Try.prog.cellsOf 26 = 3 := by kernel_rfl
theorem sof_bytes {H : Type} {enc : TypeId × Value → H} {w : World} {base : Nat} {spare : Nat → Bool} {held : Bool} {fuel : Nat} {v : Value} {y : DataW H × List MemPlace}
    (h : DataW.trod enc Try.prog w base spare held fuel 24 [v] = some y) : ∃ oa cap xs, v = .slice oa xs.length cap ∧ sofP 1 eB oa cap xs (hpOf w) Hp.emp := by
  obtain ⟨oa, cap, xs, h1, h2, -⟩ := sof_of_slice (k := 1) eB (fun _ => True) Try.underlying24 cells1 (by decide) (fun n cs' z hz => by
    obtain ⟨m, rfl, -, hw⟩ := DataW.trod_int Try.underlying5 hz
    obtain ⟨x, hx⟩ := byte_of rfl hw
    exact ⟨x, by rw [hx]; rfl, fineB x, trivial⟩) h
  exact ⟨oa, cap, xs, h1, h2⟩

theorem sof_pieces {H : Type} {enc : TypeId × Value → H} {w : World} {base : Nat} {spare : Nat → Bool} {held : Bool} {fuel : Nat} {v : Value} {y : DataW H × List MemPlace}
    (h : DataW.trod enc Try.prog w base spare held fuel 22 [v] = some y) : ∃ oa cap xs, v = .slice oa xs.length cap ∧ sofP 3 eP oa cap xs (hpOf w) Hp.emp ∧
      ∀ x ∈ xs, (-9223372036854775808 ≤ x.n ∧ x.n ≤ 9223372036854775807) ∧ sofP 1 eB x.bs.oa x.bs.cap x.bs.xs (hpOf w) Hp.emp := by
  refine sof_of_slice (k := 3) eP (fun x : Pc => (-9223372036854775808 ≤ x.n ∧ x.n ≤ 9223372036854775807) ∧ sofP 1 eB x.bs.oa x.bs.cap x.bs.xs (hpOf w) Hp.emp) Try.underlying22 cells3 (by decide) (fun n cs' z hz => ?_) h
  obtain ⟨xs, n', -, -, hlen, hxl, hf⟩ := DataW.trod_struct Try.underlying26 hz
  rw [cells3] at hlen
  have hxl : xs.length = 3 := hxl
  obtain ⟨c0, c1, c2, rfl⟩ := list3 hlen
  obtain ⟨y0, y1, y2, rfl⟩ := list3 hxl
  have f0 : DataW.trod enc Try.prog w base spare held n' 5 (([c0, c1, c2].drop 0).take (Try.prog.cellsOf 5)) = some y0 := hf 0 _ rfl
  have f1 : DataW.trod enc Try.prog w base spare held n' 2 (([c0, c1, c2].drop 1).take (Try.prog.cellsOf 2)) = some y1 := hf 1 _ rfl
  have f2 : DataW.trod enc Try.prog w base spare held n' 24 (([c0, c1, c2].drop 2).take (Try.prog.cellsOf 24)) = some y2 := hf 2 _ rfl
  rw [cells1] at f0
  rw [cellsI] at f1
  rw [cellsS] at f2
  obtain ⟨m0, e0, -, hw0⟩ := DataW.trod_int Try.underlying5 f0
  obtain ⟨m1, e1, -, hw1⟩ := DataW.trod_int Try.underlying2 f1
  have e0 : [c0] = [Value.int .u8 m0] := e0
  have e1 : [c1] = [Value.int .i64 m1] := e1
  simp only [List.cons.injEq, and_true] at e0 e1
  obtain ⟨x, hx⟩ := byte_of e0 hw0
  obtain ⟨oa, cap, bs, e2, hs⟩ := sof_bytes f2
  have hm : -9223372036854775808 ≤ m1 ∧ m1 ≤ 9223372036854775807 := by simpa [Lit.wf, IntKind.min, IntKind.max, IntKind.signed, IntKind.bits] using hw1
  exact ⟨⟨x, m1, ⟨oa, cap, bs⟩⟩, by rw [hx, e1, e2]; rfl, fineP _, hm, hs⟩

theorem own1 : ownKnob Try.prog.godebug = none := by kernel_rfl
theorem laidOut1 : laidOutB Try.prog = true := by kernel_rfl

set_option maxRecDepth 100000 in
theorem wired_lifted (os : Os) (started : os.Started) (H : Type) (enc : TypeId × Value → H) :
    ReturnsInHanded {} Try.checked os 3 .any (Ytbgjlghhcclooaa.Rows.topWiredSpec.pre6 enc Try.prog Try.f3 Ytbgjlghhcclooaa.Rows.topWiredRow.domain false) (Ytbgjlghhcclooaa.Rows.topWiredSpec.post enc Try.prog Try.f3 false true false false) := by
  refine returnsInHanded_of_change_sized (C := Try.checked) own1 started (by kernel_rfl) Try.func3
    (ChangeSpec.witness6 (enc := enc) (C := Try.checked) false ⟨#[], #[.slice none 0 0, .int .u16 0], []⟩ 8 (by kernel_rfl) (by kernel_rfl) (by kernel_rfl) (by kernel_rfl)) ?_
  intro W base args ds gs before hval0 hW hcnd hsz0 _
  have hval : ∀ (j : Nat) t v, Try.f3.params[j]? = some t → args[j]? = some v → Value.okWide Try.prog W .any base t v := hval0
  have hW' := hW
  obtain ⟨p, q, hA0, hV, rfl, hfz, hnd⟩ := hW
  have hA : DataW.TrodAll enc Try.prog W 0 (fun _ => true) true Try.f3.params.toList args.toList ds p := hA0
  rw [Try.params3] at hA hval
  obtain ⟨v0, v1, d0, d1, p0, p1, rfl, rfl, rfl, h0, h1⟩ := trodAll_two hA
  obtain ⟨rfl, rfl⟩ := trodVars_none hV
  have k0 := h0
  have lt0 : ∀ x ∈ p0, x.block < W.heap.size := by obtain ⟨m, hm⟩ := k0; exact DataW.trod_lt m _ _ _ hm
  obtain ⟨a0, l0, c0, rfl⟩ := okWide_slice Try.underlying22 (hval 0 22 v0 rfl rfl)
  obtain ⟨fuel, hf⟩ := h0
  obtain ⟨oa, cap, xs, hv, hs, hx⟩ := sof_pieces (v := .slice a0 l0 c0) hf
  obtain ⟨a1, rfl, rfl, rfl, w1⟩ := open_int Try.underlying23 (hval 1 23 v1 rfl rfl) h1
  have hu : 0 ≤ a1 ∧ a1 ≤ 65535 := by simpa [Lit.wf, IntKind.min, IntKind.max, IntKind.signed, IntKind.bits] using w1
  obtain ⟨cut, rfl⟩ : ∃ n : Nat, a1 = (n : Int) := ⟨a1.toNat, by omega⟩
  clear hA0 hval0
  have walk := lift_calls (wired_spec oa cap xs cut (by omega) (fun x m => (hx x m).1)) W (by
    intro A hA
    simp only [List.mem_cons, List.not_mem_nil, or_false] at hA
    rcases hA with rfl | rfl
    · exact hs
    · exact ⟨rfl, fun p m => by
        obtain ⟨x, hxm, rfl⟩ := List.mem_map.1 m
        exact (hx x hxm).2⟩)
  rw [hv] at hW' k0 ⊢
  refine walk.mono fun e W' ⟨he, bel⟩ => ?_
  subst he
  exact ⟨_, rfl, _, _, _, [], _, [], hW', trodAll_mk1 (shut_bool Try.underlying4 _), trodAll_mk2 (Below.trod laidOut1 (by kernel_rfl) (of_decide_eq_true (by kernel_rfl)) k0 bel lt0) (shut_int Try.underlying23 w1), rfl, bel.frame _, fun h => by cases h⟩

end Go.X
namespace Go.Proofs.Ytbgjlghhcclooaa
open Go Go.X
theorem topWired_holds : Rows.TopWiredSaid :=
  OpenClaim.holds_of_wide 3 Try.f3 rfl rfl rfl rfl rfl rfl rfl ⟨rfl, rfl, rfl, rfl, rfl⟩ rfl rfl rfl rfl rfl (by kernel_rfl) Try.func3 (by kernel_rfl)
    (of_decide_eq_true (by kernel_rfl)) (by unfold Func.isWrapper; first | (rw [if_pos (by decide +kernel)]; kernel_rfl) | (rw [if_neg (by decide +kernel)]; exact ⟨rfl, rfl⟩))
    (fun os started H enc _ => wired_lifted os started H enc)
#print axioms topWired_holds
end Go.Proofs.Ytbgjlghhcclooaa
