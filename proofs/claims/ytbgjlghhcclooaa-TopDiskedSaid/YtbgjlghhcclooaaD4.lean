/- Disks: a crash. -/
import Derived.Test.YtbgjlghhcclooaaD3
namespace Go.X
open Go Go.Proofs

/-- What is left behind j of the writes that are kept. -/
def crL (ws : List WKey) (k : Nat) (torn : Int) (lasts : List UInt8) : Nat → List UInt8
  | 0 => lasts
  | j + 1 => match ws[j]? with
    | some x => over (crL ws k torn lasts j) x.1 (x.2.take (keptN k torn j x.2.length))
    | none => crL ws k torn lasts j
theorem keptN_le (k : Nat) (torn : Int) (j len : Nat) : keptN k torn j len ≤ len := by
  unfold keptN
  split
  · exact amg_le _ _
  · exact Nat.le_refl _
theorem crL_length {ws : List WKey} {k : Nat} {torn : Int} {lasts : List UInt8} (h : ∀ x ∈ ws, x.1 + x.2.length ≤ lasts.length) : ∀ j, (crL ws k torn lasts j).length = lasts.length
  | 0 => rfl
  | j + 1 => by
    have ih := crL_length (k := k) (torn := torn) h j
    unfold crL
    split
    · rename_i x hx
      have := h x (List.mem_of_getElem? hx)
      have := keptN_le k torn j x.2.length
      rw [over_length _ _ _ (by rw [ih, List.length_take]; omega), ih]
    · exact ih
/-- What a crash leaves. -/
def crS (s : DS) (keep torn : Int) : List UInt8 := crL s.ws (amg keep s.ws.length) torn s.lasts (min (amg keep s.ws.length + 1) s.ws.length)

theorem kept_spec (b : Nat) (keep torn : Int) : FnSpec Try.prog 152 [.pointer (some ⟨b, 0, none⟩), .agg #[.int .i64 keep, .int .i64 torn]] []
    (Ret fun v L => ∃ bc bd, v = .func (.func 187) #[] #[.pointer (some ⟨bc, 0, none⟩), .pointer (some ⟨bd, 0, none⟩)] ∧ L = [pts bc 201 [.int .i64 keep, .int .i64 torn], pts bd 188 [.pointer (some ⟨b, 0, none⟩)]]) := by
  refine .intro ttOK (fun _ _ => Try.call152 _ _) Try.func152 rfl rfl rfl rfl ?_
  refine xnew fun bd => ?_
  refine xnewq [.int .i64 keep, .int .i64 torn] rfl fun bc => ?_
  exact xret (M := [pts bc 201 [.int .i64 keep, .int .i64 torn], pts bd 188 [.pointer (some ⟨b, 0, none⟩)]]) ⟨bc, bd, rfl, rfl⟩

theorem crash_spec (b : Nat) (keep torn : Int) (on : Option Addr) (cn : Nat) (now : List UInt8) (ol : Option Addr) (cl : Nat) (lasts : List UInt8) (ow : Option Addr) (cw : Nat) (ws : List Wr) (st ar : Int)
    (n0 : 0 < now.length) (n1 : now.length ≤ 1000000) (hl : lasts.length = now.length) (hw : ws.length ≤ 100000) (hx : ∀ x ∈ ws, x.at_ + x.bs.xs.length ≤ lasts.length) :
    FnSpec Try.prog 98 [.pointer (some ⟨b, 0, none⟩), .agg #[.int .i64 keep, .int .i64 torn]] (dsk b on cn now ol cl lasts ow cw ws st ar)
      (Ret fun v L => ∃ b2 N, v = .tuple #[.pointer (some ⟨b2, 0, none⟩), .int .i64 0] ∧ DK b2 ⟨crS ⟨now, lasts, ws.map Wr.key, st, ar⟩ keep torn, crS ⟨now, lasts, ws.map Wr.key, st, ar⟩ keep torn, [], 0, -1⟩ N ∧ L = dsk b on cn now ol cl lasts ow cw ws st ar ++ N) := by
  have hk : ∀ x ∈ ws.map Wr.key, x.1 + x.2.length ≤ lasts.length := by
    intro x m
    obtain ⟨y, hy, rfl⟩ := List.mem_map.1 m
    exact hx y hy
  refine .intro ttOK (fun _ _ => Try.call98 _ _) Try.func98 rfl rfl rfl rfl ?_
  refine xnewq [.int .i64 keep, .int .i64 torn] rfl fun bc0 => ?_
  refine xcallr (dnone b on cn now ol cl lasts ow cw ws st ar n0) ?_
  rintro _ _ ⟨rfl, rfl⟩
  refine brf rfl ?_
  refine xld rfl rfl ?_
  refine xcallr (clone_spec ol cl lasts (by omega)) ?_
  rintro _ _ ⟨o1, c1, rfl, rfl⟩
  refine xnew fun b6 => ?_
  refine xst rfl rfl rfl ?_
  refine xlds (vs := [.int .i64 keep, .int .i64 torn]) rfl rfl rfl ?_
  refine xcallr (kept_spec b keep torn) ?_
  rintro _ _ ⟨bc, bd, rfl, rfl⟩
  refine xrange (c := ⟨ttOK⟩) (caps := #[.pointer (some ⟨bc, 0, none⟩), .pointer (some ⟨bd, 0, none⟩)]) rfl rfl
    (kept1_iter bc bd b keep torn (.slice on now.length cn) (.slice ol lasts.length cl) ow cw ws (.int .i64 st) (.int .i64 ar) hw (fun x m => by have := hx x m; omega))
    (fun zs : List UInt8 => [pts b6 24 [.slice o1 lasts.length c1], vof 5 1 eB o1 c1 zs]) (fun j zs => zs = crL (ws.map Wr.key) (amg keep ws.length) torn lasts j) lasts rfl
    (by rintro j vs E ⟨x, -, -, rfl, -⟩; rfl) (fun _ : Unit => []) (fun _ _ => False) ?_ ?_ ?_
  · rintro j _ _ zs ⟨x, hxj, hjk, rfl, rfl⟩ rfl
    refine xnew fun b8 => ?_
    refine xstq [.int .i64 x.at_, .slice x.bs.oa x.bs.xs.length x.bs.cap] rfl rfl rfl rfl ?_
    refine xlds (vs := [.int .i64 x.at_, .slice x.bs.oa x.bs.xs.length x.bs.cap]) rfl rfl rfl ?_
    refine xld rfl rfl ?_
    have hx1 := hx x (List.mem_of_getElem? hxj)
    have hcl := crL_length (k := amg keep ws.length) (torn := torn) hk j
    have hn := keptN_le (amg keep ws.length) torn j x.bs.xs.length
    have sp := onto_spec x.at_ (keptN (amg keep ws.length) torn j x.bs.xs.length) x.bs.oa x.bs.cap x.bs.xs o1 c1 (crL (ws.map Wr.key) (amg keep ws.length) torn lasts j) hn (by omega)
    rw [hcl] at sp
    refine xcallr sp ?_
    rintro _ _ ⟨rfl, rfl⟩
    refine ⟨over (crL (ws.map Wr.key) (amg keep ws.length) torn lasts j) x.at_ (x.bs.xs.take (keptN (amg keep ws.length) torn j x.bs.xs.length)), ?_, Takes.ent⟩
    have : (ws.map Wr.key)[j]? = some x.key := by rw [List.getElem?_map, hxj]; rfl
    show _ = match (ws.map Wr.key)[j]? with
      | some x => over (crL (ws.map Wr.key) (amg keep ws.length) torn lasts j) x.1 (x.2.take (keptN (amg keep ws.length) torn j x.2.length))
      | none => _
    rw [this]
    rfl
  · rintro j zs L2 hj rfl rfl
    have hcl := crL_length (k := amg keep ws.length) (torn := torn) hk j
    refine xld rfl rfl ?_
    refine xshare o1 ?_
    have sp := of_spec o1 c1 (crL (ws.map Wr.key) (amg keep ws.length) torn lasts j) (by omega) (by omega)
    rw [hcl] at sp
    refine xcallr sp ?_
    rintro _ N ⟨b2, rfl, hN⟩
    have e : crS ⟨now, lasts, ws.map Wr.key, st, ar⟩ keep torn = crL (ws.map Wr.key) (amg keep ws.length) torn lasts j := by
      rw [hj]; unfold crS; simp only [List.length_map]
    rw [e]
    exact xret (M := dsk b on cn now ol cl lasts ow cw ws st ar ++ N) ⟨b2, N, rfl, hN, rfl⟩
  · rintro e k L2 - h
    exact h.elim
end Go.X
