/- The row of TopDisked, out of its walk: whatever the input, it returns true, and the input reads as it did. No condition. -/
import Derived.Test.YtbgjlghhcclooaaD9
import Derived.Test.YtbgjlghhcclooaaXLift
import Derived.SizedLaws
import Derived.Test.YtbgjlghhcclooaaRows
namespace Go.X
open Go Go.Proofs Go.ChangeShapes Go.WideShapes Go.ChangeAt Go.RowKit

theorem list4 {α : Type} {l : List α} (h : l.length = 4) : ∃ a b c d, l = [a, b, c, d] := by
  match l, h with
  | [a, b, c, d], _ => exact ⟨a, b, c, d, rfl⟩
theorem cells1 : Try.prog.cellsOf 5 = 1 := by kernel_rfl
theorem cells4 : Try.prog.cellsOf 68 = 4 := by kernel_rfl

theorem sof_arrays {H : Type} {enc : TypeId × Value → H} {w : World} {base : Nat} {spare : Nat → Bool} {held : Bool} {fuel : Nat} {v : Value} {y : DataW H × List MemPlace}
    (h : DataW.trod enc Try.prog w base spare held fuel 66 [v] = some y) : ∃ oa cap xs, v = .slice oa xs.length cap ∧ sofP 4 eA oa cap xs (hpOf w) Hp.emp := by
  obtain ⟨oa, cap, xs, h1, h2, -⟩ := sof_of_slice (k := 4) eA (fun _ => True) Try.underlying66 cells4 (by decide) (fun n cs' z hz => by
    obtain ⟨ys, n', -, -, hlen, hyl, hf⟩ := DataW.trod_array Try.underlying68 hz
    rw [cells4] at hlen
    obtain ⟨c0, c1, c2, c3, rfl⟩ := list4 hlen
    obtain ⟨y0, y1, y2, y3, rfl⟩ := list4 hyl
    rw [cells1] at hf
    obtain ⟨m0, e0, -, w0⟩ := DataW.trod_int Try.underlying5 (show DataW.trod enc Try.prog w base spare held n' 5 [c0] = some y0 from hf 0 (by omega))
    obtain ⟨m1, e1, -, w1⟩ := DataW.trod_int Try.underlying5 (show DataW.trod enc Try.prog w base spare held n' 5 [c1] = some y1 from hf 1 (by omega))
    obtain ⟨m2, e2, -, w2⟩ := DataW.trod_int Try.underlying5 (show DataW.trod enc Try.prog w base spare held n' 5 [c2] = some y2 from hf 2 (by omega))
    obtain ⟨m3, e3, -, w3⟩ := DataW.trod_int Try.underlying5 (show DataW.trod enc Try.prog w base spare held n' 5 [c3] = some y3 from hf 3 (by omega))
    simp only [List.cons.injEq, and_true] at e0 e1 e2 e3
    obtain ⟨x0, h0⟩ := byte_of e0 w0
    obtain ⟨x1, h1⟩ := byte_of e1 w1
    obtain ⟨x2, h2⟩ := byte_of e2 w2
    obtain ⟨x3, h3⟩ := byte_of e3 w3
    exact ⟨(x0, x1, x2, x3), by rw [h0, h1, h2, h3]; rfl, fineA _, trivial⟩) h
  exact ⟨oa, cap, xs, h1, h2⟩

theorem own1 : ownKnob Try.prog.godebug = none := by kernel_rfl
theorem laidOut1 : laidOutB Try.prog = true := by kernel_rfl

set_option maxRecDepth 100000 in
theorem disked_lifted (os : Os) (started : os.Started) (H : Type) (enc : TypeId × Value → H) :
    ReturnsInHanded {} Try.checked os 5 .any (Ytbgjlghhcclooaa.Rows.topDiskedSpec.pre6 enc Try.prog Try.f5 Ytbgjlghhcclooaa.Rows.topDiskedRow.domain false) (Ytbgjlghhcclooaa.Rows.topDiskedSpec.post enc Try.prog Try.f5 false true false false) := by
  refine returnsInHanded_of_change_sized (C := Try.checked) own1 started (by kernel_rfl) Try.func5
    (ChangeSpec.witness6 (enc := enc) (C := Try.checked) false ⟨#[], #[.int .u8 0, .slice none 0 0], []⟩ 8 (by kernel_rfl) (by kernel_rfl) (by kernel_rfl) (by kernel_rfl)) ?_
  intro W base args ds gs before hval0 hW hcnd hsz0 _
  have hval : ∀ (j : Nat) t v, Try.f5.params[j]? = some t → args[j]? = some v → Value.okWide Try.prog W .any base t v := hval0
  have hW' := hW
  obtain ⟨p, q, hA0, hV, rfl, hfz, hnd⟩ := hW
  have hA : DataW.TrodAll enc Try.prog W 0 (fun _ => true) true Try.f5.params.toList args.toList ds p := hA0
  rw [Try.params5] at hA hval
  obtain ⟨v0, v1, d0, d1, p0, p1, rfl, rfl, rfl, h0, h1⟩ := trodAll_two hA
  obtain ⟨rfl, rfl⟩ := trodVars_none hV
  have k1 := h1
  have lt1 : ∀ x ∈ p1, x.block < W.heap.size := by obtain ⟨m, hm⟩ := k1; exact DataW.trod_lt m _ _ _ hm
  obtain ⟨a0, rfl, rfl, rfl, w0⟩ := open_int Try.underlying5 (hval 0 5 v0 rfl rfl) h0
  obtain ⟨a1, l1, c1, rfl⟩ := okWide_slice Try.underlying66 (hval 1 66 v1 rfl rfl)
  obtain ⟨fuel, hf⟩ := h1
  obtain ⟨oa, cap, xs, hv, hs⟩ := sof_arrays (v := .slice a1 l1 c1) hf
  obtain ⟨size, hsize⟩ := byte_of (v := .int .u8 a0) rfl w0
  clear hA0 hval0
  have walk := lift_calls (topDisked_spec size oa cap xs) W (by
    intro A hA
    simp only [List.mem_cons, List.not_mem_nil, or_false] at hA
    subst hA
    exact hs)
  rw [← hsize, ← hv] at walk
  refine walk.mono fun e W' ⟨he, bel⟩ => ?_
  subst he
  exact ⟨_, rfl, _, _, _, [], _, [], hW', trodAll_mk1 (shut_bool Try.underlying4 _), trodAll_mk2 (shut_int Try.underlying5 w0) (Below.trod laidOut1 (by kernel_rfl) (of_decide_eq_true (by kernel_rfl)) k1 bel lt1), rfl, bel.frame _, fun h => by cases h⟩

end Go.X
namespace Go.Proofs.Ytbgjlghhcclooaa
open Go Go.X
theorem topDisked_holds : Rows.TopDiskedSaid :=
  OpenClaim.holds_of_wide 5 Try.f5 rfl rfl rfl rfl rfl rfl rfl ⟨rfl, rfl, rfl, rfl, rfl⟩ rfl rfl rfl rfl rfl (by kernel_rfl) Try.func5 (by kernel_rfl)
    (of_decide_eq_true (by kernel_rfl)) (by unfold Func.isWrapper; first | (rw [if_pos (by decide +kernel)]; kernel_rfl) | (rw [if_neg (by decide +kernel)]; exact ⟨rfl, rfl⟩))
    (fun os started H enc _ => disked_lifted os started H enc)
#print axioms topDisked_holds
end Go.Proofs.Ytbgjlghhcclooaa
