/- Disks: what a crash leaves. -/
import Derived.Test.YtbgjlghhcclooaaD2
namespace Go.X
open Go Go.Proofs

/-- With how many bytes a write is kept. -/
def keptN (k : Nat) (torn : Int) (j : Nat) (len : Nat) : Nat := if j = k then amg torn len else len
def YK (ws : List Wr) (k : Nat) (torn : Int) (j : Nat) (vs : List Value) (E : List Assn) : Prop :=
  ∃ x, ws[j]? = some x ∧ j ≤ k ∧ vs = [.int .i64 (keptN k torn j x.bs.xs.length), .agg #[.int .i64 x.at_, .slice x.bs.oa x.bs.xs.length x.bs.cap]] ∧ E = [sof 1 eB x.bs.oa x.bs.cap x.bs.xs]

theorem amg_le (k : Int) (n : Nat) : amg k n ≤ n := by
  unfold amg
  have h0 := Int.emod_nonneg k (show ((n : Int) + 1) ≠ 0 by omega)
  have h1 := Int.emod_lt_of_pos k (show (0 : Int) < n + 1 by omega)
  omega

theorem kept1_iter (bc bd b : Nat) (keep torn : Int) (v0 v1 : Value) (ow : Option Addr) (cw : Nat) (ws : List Wr) (v3 v4 : Value) (hw : ws.length ≤ 100000) (hx : ∀ x ∈ ws, x.bs.xs.length ≤ 1000000) :
    IterSpec Try.prog 187 [.pointer (some ⟨bc, 0, none⟩), .pointer (some ⟨bd, 0, none⟩)] (YK ws (amg keep ws.length) torn) (fun j => j = min (amg keep ws.length + 1) ws.length)
      [pts bc 201 [.int .i64 keep, .int .i64 torn], pts bd 188 [.pointer (some ⟨b, 0, none⟩)], pts b 266 [v0, v1, .slice ow ws.length cw, v3, v4], vof 259 2 eW ow cw ws, allS (ws.map Wr.bs)]
      (fun L => L = [pts b 266 [v0, v1, .slice ow ws.length cw, v3, v4], vof 259 2 eW ow cw ws, allS (ws.map Wr.bs)]) := by
  intro l C Z htk L0 hC0
  refine .intro ttOK (fun _ _ => Try.call187 _ _) Try.func187 rfl rfl rfl rfl ?_
  refine xscope ?_
  refine xdraw [pts bc 201 [.int .i64 keep, .int .i64 torn], pts bd 188 [.pointer (some ⟨b, 0, none⟩)], pts b 266 [v0, v1, .slice ow ws.length cw, v3, v4]] (.op 0 2 <| .op 1 1 <| .op 2 1 <| .op 3 2 <| .op 4 2 <| .op 5 1 <| .op 6 2 <| .op 7 0 <| .op 8 2 <| .done) [7] (by decide +kernel) Takes.ent ?_
  refine hld rfl rfl ?_
  refine hld rfl rfl ?_
  refine hld rfl rfl ?_
  refine xcallr (among_spec keep ws.length (by omega)) ?_
  rintro _ _ ⟨rfl, rfl⟩
  refine held ?_
  refine xld rfl rfl ?_
  refine xld rfl rfl ?_
  refine xloop (ι := Nat × List Assn) (fun (j, _) => [(0, .v (.func (.yield l) #[] #[])), (1, .v (.pointer (some ⟨bc, 0, none⟩))), (2, .v (.pointer (some ⟨bd, 0, none⟩))), (4, .v (.int .i64 (amg keep ws.length))), (19, .v (.slice ow ws.length cw)), (20, .v (.int .i64 ws.length)), (21, .v (.int .i64 j))])
    (fun (_, Lj) => Lj ++ [pts bc 201 [.int .i64 keep, .int .i64 torn], pts b 266 [v0, v1, .slice ow ws.length cw, v3, v4], vof 259 2 eW ow cw ws, allS (ws.map Wr.bs)])
    (fun (j, Lj) => C j Lj ∧ j ≤ amg keep ws.length ∧ j ≤ ws.length) (fun (j, _) => ws.length - j) (0, L0) ⟨⟨rfl, rfl, rfl, rfl, rfl, rfl, rfl, trivial⟩, Takes.ent (M := L0 ++ [pts bc 201 [.int .i64 keep, .int .i64 torn], pts b 266 [v0, v1, .slice ow ws.length cw, v3, v4], vof 259 2 eW ow cw ws, allS (ws.map Wr.bs)]), ⟨hC0, Nat.zero_le _, Nat.zero_le _⟩, rfl⟩ (fun _ => rfl) ?_
  rintro ⟨j, Lj⟩ ⟨hC, hjk, hjl⟩
  refine brd (fun hlt => ?_) (fun hge => ?_)
  · have hlt' : j < ws.length := by omega
    obtain ⟨x, hxj⟩ : ∃ x, ws[j]? = some x := ⟨ws[j], List.getElem?_eq_getElem hlt'⟩
    have hxl := hx x (List.mem_of_getElem? hxj)
    refine xidx rfl (Nat.le_refl _) (by omega) ?_
    refine xldes rfl rfl (by assumption) ?_
    refine xnew fun b6 => ?_
    refine xstq [.int .i64 x.at_, .slice x.bs.oa x.bs.xs.length x.bs.cap] rfl rfl rfl rfl ?_
    refine xld rfl rfl ?_
    have hps : (ws.map Wr.bs)[j]? = some x.bs := by rw [List.getElem?_map, hxj]; rfl
    refine brq (fun hk => ?_) (fun hk => ?_)
    · refine xld rfl rfl ?_
      refine xcallr (among_spec torn x.bs.xs.length hxl) ?_
      rintro _ _ ⟨rfl, rfl⟩
      refine xlds (vs := [.int .i64 x.at_, .slice x.bs.oa x.bs.xs.length x.bs.cap]) rfl rfl rfl ?_
      refine xgetS (ws.map Wr.bs) hps ?_
      have hn : keptN (amg keep ws.length) torn j x.bs.xs.length = amg torn x.bs.xs.length := if_pos (by omega)
      refine xyield (htk j _ _ ⟨x, hxj, hjk, by rw [hn]; rfl, rfl⟩ Lj hC) ?_
      rintro _ N (⟨rfl, hC'⟩ | ⟨rfl, hZ'⟩)
      · refine brf rfl ?_
        refine brqy (by omega) ?_
        exact xret (M := N ++ [pts b 266 [v0, v1, .slice ow ws.length cw, v3, v4], vof 259 2 eW ow cw ws, allS (ws.map Wr.bs)]) ⟨N, _, rfl, rfl, .inl ⟨j + 1, by omega, hC'⟩⟩
      · refine brt rfl ?_
        exact xret (M := N ++ [pts b 266 [v0, v1, .slice ow ws.length cw, v3, v4], vof 259 2 eW ow cw ws, allS (ws.map Wr.bs)]) ⟨N, _, rfl, rfl, .inr hZ'⟩
    · refine xlds (vs := [.int .i64 x.at_, .slice x.bs.oa x.bs.xs.length x.bs.cap]) rfl rfl rfl ?_
      refine xgetS (ws.map Wr.bs) hps ?_
      have hn : keptN (amg keep ws.length) torn j x.bs.xs.length = x.bs.xs.length := if_neg (by omega)
      refine xyield (htk j _ _ ⟨x, hxj, hjk, by rw [hn]; rfl, rfl⟩ Lj hC) ?_
      rintro _ N (⟨rfl, hC'⟩ | ⟨rfl, hZ'⟩)
      · refine brf rfl ?_
        refine brqn hk ?_
        refine ari (by omega) ?_
        exact ⟨(j + 1, N), ⟨⟨rfl, rfl, rfl, rfl, rfl, rfl, rfl, trivial⟩, Takes.ent (M := N ++ [pts bc 201 [.int .i64 keep, .int .i64 torn], pts b 266 [v0, v1, .slice ow ws.length cw, v3, v4], vof 259 2 eW ow cw ws, allS (ws.map Wr.bs)]), ⟨hC', by omega, by omega⟩, rfl⟩, by show ws.length - (j + 1) < ws.length - j; omega⟩
      · refine brt rfl ?_
        exact xret (M := N ++ [pts b 266 [v0, v1, .slice ow ws.length cw, v3, v4], vof 259 2 eW ow cw ws, allS (ws.map Wr.bs)]) ⟨N, _, rfl, rfl, .inr hZ'⟩
  · exact xret (M := Lj ++ [pts b 266 [v0, v1, .slice ow ws.length cw, v3, v4], vof 259 2 eW ow cw ws, allS (ws.map Wr.bs)]) ⟨Lj, _, rfl, rfl, .inl ⟨j, by omega, hC⟩⟩
end Go.X
