/- bytes.Repeat, of one byte. -/
import Derived.Test.YtbgjlghhcclooaaD4
import Derived.Room.MakeNoZero
import Derived.Laws.Externs
namespace Go.X
open Go Go.Proofs

def bytesL : Nat → Nat → List UInt8
  | 0, _ => []
  | n + 1, t => UInt8.ofNat (t % 256) :: bytesL n (t / 256)
theorem bytesL_length : ∀ (n t : Nat), (bytesL n t).length = n
  | 0, _ => rfl
  | n + 1, t => by rw [bytesL, List.length_cons, bytesL_length n]
theorem digits_bytes : ∀ (n t : Nat) (acc : Array Value), (Extern.BytealgMakeNoZero.digits n t acc).toList = acc.toList ++ (bytesL n t).flatMap eB
  | 0, _, _ => by simp [Extern.BytealgMakeNoZero.digits, bytesL]
  | n + 1, t, acc => by
    rw [Extern.BytealgMakeNoZero.digits, digits_bytes n, bytesL, List.flatMap_cons, Array.toList_push, List.append_assoc]
    have e : eB (UInt8.ofNat (t % 256)) = [.int .u8 (Int.ofNat (t % 256))] := by
      unfold eB
      have h2 : t % 256 % 2 ^ 8 = t % 256 := by omega
      rw [UInt8.toNat_ofNat', h2]
      rfl
    exact congrArg (fun z => acc.toList ++ (z ++ (bytesL n (t / 256)).flatMap eB)) e.symm

theorem mnz_run (n : Nat) (w : World) (hn : n ≤ 1000000) : ∃ cap bs : Nat, n ≤ cap ∧ cap ≤ maxLen ∧ (Extern.BytealgMakeNoZero.makeNoZero #[3] #[24] #[.int .i64 n]).run Try.prog w = .ok (.slice (some ⟨w.heap.size, 0, none⟩) n cap) (w.drew.drew.alloc (.cells (Extern.BytealgMakeNoZero.digits cap bs #[]) 5)) := by
  have hu : Try.prog.underlying 24 = some (.slice 5) := by kernel_rfl
  have hdef : Extern.BytealgMakeNoZero.makeNoZero #[3] #[24] #[.int .i64 n] =
      (do
        let .slice elem ← underlying 24 | stuck "bytealg.MakeNoZero: slice type expected"
        if (n : Int) < 0 || (n : Int) > 2 ^ 48 then runtimePanic (.error "makeslice: len out of range")
        let cap ← choose (.appendCap (n : Int).toNat 0 elem)
        askRoom cap
        let bytes ← choose (.extern "internal/bytealg.MakeNoZero.bytes" 0)
        let a ← newRow elem (Extern.BytealgMakeNoZero.digits cap bytes #[])
        pure (.slice (some a) (n : Int).toNat cap)) := rfl
  refine ⟨grownCap w n 0 5, (Question.extern "internal/bytealg.MakeNoZero.bytes" 0).cut (w.tape (w.drawn + 1) (.extern "internal/bytealg.MakeNoZero.bytes" 0)), ?_, ?_, ?_⟩
  · simpa using grownCap_ge w n 0 5
  · exact grownCap_le_maxLen w n 0 5 (le_maxLen (by omega))
  · rw [hdef]
    have h1 : ¬ (n : Int) < 0 := by omega
    have h2 : ¬ (281474976710656 : Int) < (n : Int) := by omega
    simp [run_underlying hu, h1, h2, Question.forced, newRow, grownCap]

theorem mnz_call (n : Nat) (w : World) (hn : n ≤ 1000000) : ∃ cap bs : Nat, n ≤ cap ∧ cap ≤ maxLen ∧ (callFunc 145 #[.int .i64 n]).run Try.prog w = .ok (.value (.slice (some ⟨w.heap.size, 0, none⟩) n cap)) (w.drew.drew.alloc (.cells (Extern.BytealgMakeNoZero.digits cap bs #[]) 5)) := by
  obtain ⟨cap, bs, hc1, hc2, hrun⟩ := mnz_run n w hn
  have hcall := run_callFunc_extern (P := Try.prog) (f := 145) (fn := Try.f145) (e := fun xs => Extern.BytealgMakeNoZero.makeNoZero #[3] #[24] xs) (by kernel_rfl) (by kernel_rfl) (by kernel_rfl) (by kernel_rfl) (by kernel_rfl) #[.int .i64 n] w
  rw [hrun, Result.andThen_ok] at hcall
  exact ⟨cap, bs, hc1, hc2, hcall⟩

/-- Bytes that are not put to nought. -/
theorem xnozero_of {P : Program} {f : FuncId} {e : TypeId} (n : Nat) {L : List Assn} {K : Ending → List Assn → Prop}
    (h : ∀ w : World, ∃ cap bs : Nat, n ≤ cap ∧ cap ≤ maxLen ∧ (callFunc f #[.int .i64 n]).run P w = .ok (.value (.slice (some ⟨w.heap.size, 0, none⟩) n cap)) (w.drew.drew.alloc (.cells (Extern.BytealgMakeNoZero.digits cap bs #[]) e)))
    (q : ∀ b c (xs : List UInt8), xs.length = n → n ≤ c → K (.returned (.slice (some ⟨b, 0, none⟩) n c)) (vof e 1 eB (some ⟨b, 0, none⟩) c xs :: L)) : VC P (.call f [.int .i64 n]) L K := by
  refine ⟨fun w R o => ?_⟩
  show VCres P R K ((callFunc f #[.int .i64 n]).run P w)
  obtain ⟨cap, bs, hc1, hc2, hrun⟩ := h w
  rw [hrun]
  have o1 := (o.draw.draw).alloc (.cells (Extern.BytealgMakeNoZero.digits cap bs #[]) e)
  have hx : ((bytesL cap bs).take n).length = n := by rw [List.length_take, bytesL_length]; omega
  refine ⟨_, ?_, q w.heap.size cap ((bytesL cap bs).take n) hx hc1⟩
  refine Ent.head (A := obj w.drew.drew.heap.size (.cells (Extern.BytealgMakeNoZero.digits cap bs #[]) e)) (B := vof e 1 eB (some ⟨w.heap.size, 0, none⟩) cap ((bytesL cap bs).take n)) (fun F h g => Or.inr ⟨_, _, rfl, g, ?_, by omega, hc2, fun x _ => fineB x, ?_⟩) L _ R o1
  · rw [← Array.length_toList, digits_bytes, List.nil_append, flat1 (fun x _ => fineB x), bytesL_length, Nat.mul_one]
  · intro j v hj
    rw [flat_take n (fun x _ => fineB x), List.getElem?_take] at hj
    split at hj
    · rw [← Array.getElem?_toList, digits_bytes, List.nil_append]; exact hj
    · cases hj

theorem xnozero (n : Nat) {L : List Assn} {K : Ending → List Assn → Prop} (hn : n ≤ 1000000)
    (q : ∀ b c (xs : List UInt8), xs.length = n → n ≤ c → K (.returned (.slice (some ⟨b, 0, none⟩) n c)) (vof 5 1 eB (some ⟨b, 0, none⟩) c xs :: L)) : VC Try.prog (.call 145 [.int .i64 n]) L K :=
  xnozero_of n (fun w => mnz_call n w hn) q

/-- A copy within one slice that is owned: its first bytes, further on. -/
theorem xcopyo {P : Program} {T : Tab} [c : TabC P T] {t t2 ty : TypeId} {α : Type} {oa : Option Addr} {e : TypeId} {cap : Nat} {enc : α → List Value} {xs : List α} {l dl dc m cx : Nat} {cs : List Bool} {L L' : List Assn} {K : Ending → List Assn → Prop}
    [r : TakeVof oa L α e 1 enc cap xs L'] (zs : List α) (hz : over xs l (xs.take (min m dl)) = zs) (h1 : elemK T t 1 = true) (hm : m ≤ xs.length) (hd : l + dl ≤ xs.length)
    (q : K (.returned (.int .i64 (min m dl : Nat))) (vof e 1 enc oa cap zs :: L')) : VC P (.blt .copy [t, t2] ty cs [.slice (ofs oa cap l 1) dl dc, .slice oa m cx]) L K := by
  refine ⟨fun w R o => ?_⟩
  obtain ⟨hr, hf, -, -⟩ := (r.out w R o).vof
  have hr' : Reads w oa ((xs.take m).flatMap enc) := fun j v hj => by
    rw [flat_take _ hf, List.getElem?_take] at hj
    split at hj
    · exact hr j v hj
    · cases hj
  obtain ⟨w', h, o'⟩ := copy_vof (t2 := t2) (ty := ty) (dc := dc) (cx := cx) (cs := cs) (m := m) c.ok h1 (r.out w R o) hr' (fun x hx => hf x (List.mem_of_mem_take hx)) (by rw [List.length_take]; omega) hd
  rw [h]
  have e2 : (xs.take m).take (min m dl) = xs.take (min m dl) := by rw [List.take_take]; congr 1; omega
  rw [e2] at o'
  exact ⟨_, hz ▸ o', q⟩
end Go.X
