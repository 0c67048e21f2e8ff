/- TopDisked: the whole. -/
import Derived.Test.YtbgjlghhcclooaaD8
namespace Go.X
open Go Go.Proofs

def exD : List A4 := [(0, 1, 2, 0), (4, 0, 0, 0), (0, 2, 2, 0), (6, 0, 1, 0), (5, 0, 0, 3), (4, 0, 0, 0), (4, 0, 0, 0), (7, 1, 0, 0), (0, 3, 2, 0)]
theorem fineA (x : A4) : fine 4 (eA x) := ⟨rfl, rfl⟩

theorem topDisked_spec (size : UInt8) (oa : Option Addr) (cap : Nat) (l : List A4) : FnSpec Try.prog 5 [.int .u8 size.toNat, .slice oa l.length cap] [sof 4 eA oa cap l] (Ret fun v _ => v = .bool true) := by
  refine .intro ttOK (fun _ _ => Try.call5 _ _) Try.func5 rfl rfl rfl rfl ?_
  refine xblda 4 1 rfl rfl rfl ?_
  refine xblda 4 1 rfl rfl rfl ?_
  refine xblda 4 1 rfl rfl rfl ?_
  refine xblda 4 1 rfl rfl rfl ?_
  refine xblda 4 1 rfl rfl rfl ?_
  refine xblda 4 1 rfl rfl rfl ?_
  refine xblda 4 1 rfl rfl rfl ?_
  refine xblda 4 1 rfl rfl rfl ?_
  refine xblda 4 1 rfl rfl rfl ?_
  refine xrow (el := 68) (k := 4) (cells := exD.flatMap eA) rfl rfl rfl (by kernel_rfl) fun b => ?_
  refine xown b 4 eA exD rfl (fun x _ => fineA x) (le_maxLen (show 9 ≤ 2147483648 by omega)) ?_
  refine xshare (some ⟨b, 0, none⟩) ?_
  refine xcallr (disked_spec 2 (some ⟨b, 0, none⟩) exD.length exD (by decide)) ?_
  rintro _ _ ⟨rfl, rfl⟩
  refine brt rfl ?_
  refine xmin ?_
  refine xslc (k := 4) rfl (l := 0) .no (h := min l.length 100) (.is (by omega)) rfl (Nat.zero_le _) (by omega) fun o2 c2 => ?_
  rw [List.drop_zero]
  refine xcallr (disked_spec size o2 c2 (l.take (min l.length 100)) (by rw [List.length_take]; omega)) ?_
  rintro _ _ ⟨rfl, rfl⟩
  exact xret (M := []) rfl
end Go.X
