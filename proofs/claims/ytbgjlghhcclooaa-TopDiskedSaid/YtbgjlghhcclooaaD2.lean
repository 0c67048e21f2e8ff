/- Disks, on. -/
import Derived.Test.YtbgjlghhcclooaaXScope
import Derived.Test.YtbgjlghhcclooaaD1
namespace Go.X
open Go Go.Proofs

/-- A copy of what is owned. -/
theorem clone_specv (oa : Option Addr) (cap : Nat) (xs : List UInt8) (hl : xs.length ≤ 2147483648) : FnSpec Try.prog 13 [.slice oa xs.length cap] [vof 5 1 eB oa cap xs]
    (Ret fun v L => ∃ o c, v = .slice o xs.length c ∧ L = [vof 5 1 eB o c xs, vof 5 1 eB oa cap xs]) := by
  refine .intro ttOK (fun _ _ => Try.call13 _ _) Try.func13 rfl rfl rfl rfl ?_
  refine br (fun h => ?_) (fun h => ?_)
  · obtain rfl : oa = none := by simpa using h
    refine r_know (φ := xs = []) (fun w R o => ?_) fun h => ?_
    · obtain ⟨hr, -⟩ := o.vof
      cases xs with
      | nil => rfl
      | cons v vs => obtain ⟨a, ea, _⟩ := hr 0 _ rfl; cases ea
    subst h
    exact r_ent (Ent.vof0 5 1 eB _) (xret (M := [vof 5 1 eB none 0 [], vof 5 1 eB none cap []]) ⟨none, 0, rfl, rfl⟩)
  · refine xrow (el := 5) (k := 1) rfl rfl rfl rfl fun b => ?_
    refine xown b 1 eB ([] : List UInt8) rfl (fun _ m => by cases m) (Nat.zero_le _) ?_
    refine xappq (n := 0) xs (List.nil_append xs) rfl rfl rfl hl fun oa' cap' => ?_
    exact xret (M := [vof 5 1 eB oa' cap' xs, vof 5 1 eB oa cap xs]) ⟨oa', cap', rfl, rfl⟩

theorem flush1_spec (bd b : Nat) (on : Option Addr) (cn : Nat) (now : List UInt8) (ol : Option Addr) (cl : Nat) (lasts : List UInt8) (ow : Option Addr) (cw : Nat) (ws : List Wr) (st ar : Int) (hl : now.length ≤ 2147483648) :
    FnSpec Try.prog 151 [.pointer (some ⟨bd, 0, none⟩)]
      (dsk b on cn now ol cl lasts ow cw ws st ar ++ [pts bd 188 [.pointer (some ⟨b, 0, none⟩)]])
      (Ret fun _ L => ∃ on cn ol cl ow cw, L = dsk b on cn now ol cl now ow cw [] st ar) := by
  refine .intro ttOK (fun _ _ => Try.call151 _ _) Try.func151 rfl rfl rfl rfl ?_
  refine xdraw [pts bd 188 [.pointer (some ⟨b, 0, none⟩)]] (.op 0 1 <| .op 1 1 <| .op 2 1 <| .op 3 2 <| .op 4 2 <| .op 5 2 <| .op 6 0 <| .op 7 0 <| .op 8 2 <| .op 9 2 <| .op 10 0 <| .op 11 2 <| .op 12 2 <| .op 13 0 <| .done) [6, 7, 10] (by decide +kernel) Takes.ent ?_
  refine hld rfl rfl ?_
  refine hld rfl rfl ?_
  refine hld rfl rfl ?_
  refine xld rfl rfl ?_
  refine held ?_
  refine xcallr (clone_specv on cn now hl) ?_
  rintro _ _ ⟨o1, c1, rfl, rfl⟩
  refine held ?_
  refine xst rfl rfl rfl ?_
  refine held ?_
  refine xst rfl rfl rfl ?_
  refine rshare o1 ?_
  refine r_ent (Ent.vof0 259 2 eW _) ?_
  refine r_ent (Ent.allS_nil _) ?_
  exact xret (M := [pts b 266 [.slice on now.length cn, .slice o1 now.length c1, .slice none 0 0, .int .i64 st, .int .i64 ar], vof 5 1 eB on cn now, sof 1 eB o1 c1 now, vof 259 2 eW none 0 [], allS []]) ⟨on, cn, o1, c1, none, 0, rfl⟩

/-- What a flush does. -/
def flS (s : DS) : Int × DS := if s.ar = 0 then (180, s) else (0, { s with lasts := s.now, ws := [], st := s.st + 1, ar := if s.ar > 0 then s.ar - 1 else s.ar })

theorem flush_spec (b : Nat) (on : Option Addr) (cn : Nat) (now : List UInt8) (ol : Option Addr) (cl : Nat) (lasts : List UInt8) (ow : Option Addr) (cw : Nat) (ws : List Wr) (st ar : Int)
    (s : DS) (hs : s = ⟨now, lasts, ws.map Wr.key, st, ar⟩) (ok : DOK s) :
    FnSpec Try.prog 95 [.pointer (some ⟨b, 0, none⟩)] (dsk b on cn now ol cl lasts ow cw ws st ar) (Ret fun v L => v = .int .i64 (flS s).1 ∧ DK b (flS s).2 L) := by
  subst hs
  obtain ⟨n0, n1, hst, har, -⟩ := ok
  simp only at n0 n1 hst har
  refine .intro ttOK (fun _ _ => Try.call95 _ _) Try.func95 rfl rfl rfl rfl ?_
  refine xnew fun bd => ?_
  refine xld rfl rfl ?_
  refine xcallr (dnone b on cn now ol cl lasts ow cw ws st ar n0) ?_
  rintro _ _ ⟨rfl, rfl⟩
  refine brf rfl ?_
  refine xld rfl rfl ?_
  refine xcallr (step_spec b (.slice on now.length cn) (.slice ol lasts.length cl) (.slice ow ws.length cw) st ar 151 #[.pointer (some ⟨bd, 0, none⟩)]
    [vof 5 1 eB on cn now, sof 1 eB ol cl lasts, vof 259 2 eW ow cw ws, allS (ws.map Wr.bs), pts bd 188 [.pointer (some ⟨b, 0, none⟩)]] _ (by omega) (by omega)
    (fun _ => flush1_spec bd b on cn now ol cl lasts ow cw ws _ _ (by omega))) ?_
  rintro _ _ (⟨h0, rfl, rfl⟩ | ⟨h0, rfl, on, cn, ol, cl, ow, cw, rfl⟩)
  · have e : flS ⟨now, lasts, ws.map Wr.key, st, ar⟩ = (180, ⟨now, lasts, ws.map Wr.key, st, ar⟩) := if_pos h0
    rw [e]
    exact xret (M := dsk b on cn now ol cl lasts ow cw ws st ar) ⟨rfl, on, cn, ol, cl, ow, cw, ws, rfl, rfl⟩
  · have e : flS ⟨now, lasts, ws.map Wr.key, st, ar⟩ = (0, ⟨now, now, [], st + 1, if ar > 0 then ar - 1 else ar⟩) := if_neg h0
    rw [e]
    exact xret (M := dsk b on cn now ol cl now ow cw [] (st + 1) (if ar > 0 then ar - 1 else ar)) ⟨rfl, on, cn, ol, cl, ow, cw, [], rfl, rfl⟩

theorem arm_spec (b : Nat) (on : Option Addr) (cn : Nat) (now : List UInt8) (v1 v2 v3 : Value) (ar k : Int) (hn : 0 < now.length) :
    FnSpec Try.prog 96 [.pointer (some ⟨b, 0, none⟩), .int .i64 k] [pts b 266 [.slice on now.length cn, v1, v2, v3, .int .i64 ar]]
    (Ret fun v L => v = .int .i64 0 ∧ L = [pts b 266 [.slice on now.length cn, v1, v2, v3, .int .i64 (max k (-1))]]) := by
  refine .intro ttOK (fun _ _ => Try.call96 _ _) Try.func96 rfl rfl rfl rfl ?_
  refine xcallr (none_spec b now.length on cn v1 v2 v3 (.int .i64 ar) hn) ?_
  rintro _ _ ⟨rfl, rfl⟩
  refine brf rfl ?_
  refine xmax ?_
  refine xst rfl rfl rfl ?_
  exact xret (M := [pts b 266 [.slice on now.length cn, v1, v2, v3, .int .i64 (max k (-1))]]) ⟨rfl, rfl⟩

theorem waits_spec (b n : Nat) (on : Option Addr) (cn : Nat) (v1 v3 v4 : Value) (ow : Option Addr) (cw m : Nat) (hn : 0 < n) :
    FnSpec Try.prog 100 [.pointer (some ⟨b, 0, none⟩)] [pts b 266 [.slice on n cn, v1, .slice ow m cw, v3, v4]]
    (Ret fun v L => v = .int .i64 m ∧ L = [pts b 266 [.slice on n cn, v1, .slice ow m cw, v3, v4]]) := by
  refine .intro ttOK (fun _ _ => Try.call100 _ _) Try.func100 rfl rfl rfl rfl ?_
  refine xcallr (none_spec b n on cn v1 (.slice ow m cw) v3 v4 hn) ?_
  rintro _ _ ⟨rfl, rfl⟩
  refine brf rfl ?_
  refine xld rfl rfl ?_
  exact xret (M := [pts b 266 [.slice on n cn, v1, .slice ow m cw, v3, v4]]) ⟨rfl, rfl⟩

theorem steps_spec (b n : Nat) (on : Option Addr) (cn : Nat) (v1 v2 v4 : Value) (st : Int) (hn : 0 < n) :
    FnSpec Try.prog 101 [.pointer (some ⟨b, 0, none⟩)] [pts b 266 [.slice on n cn, v1, v2, .int .i64 st, v4]]
    (Ret fun v L => v = .int .i64 st ∧ L = [pts b 266 [.slice on n cn, v1, v2, .int .i64 st, v4]]) := by
  refine .intro ttOK (fun _ _ => Try.call101 _ _) Try.func101 rfl rfl rfl rfl ?_
  refine xcallr (none_spec b n on cn v1 v2 (.int .i64 st) v4 hn) ?_
  rintro _ _ ⟨rfl, rfl⟩
  refine brf rfl ?_
  refine xld rfl rfl ?_
  exact xret (M := [pts b 266 [.slice on n cn, v1, v2, .int .i64 st, v4]]) ⟨rfl, rfl⟩

theorem size_spec (b n : Nat) (on : Option Addr) (cn : Nat) (v1 v2 v3 v4 : Value) (hn : 0 < n) :
    FnSpec Try.prog 102 [.pointer (some ⟨b, 0, none⟩)] [pts b 266 [.slice on n cn, v1, v2, v3, v4]]
    (Ret fun v L => v = .int .i64 n ∧ L = [pts b 266 [.slice on n cn, v1, v2, v3, v4]]) := by
  refine .intro ttOK (fun _ _ => Try.call102 _ _) Try.func102 rfl rfl rfl rfl ?_
  refine xcallr (none_spec b n on cn v1 v2 v3 v4 hn) ?_
  rintro _ _ ⟨rfl, rfl⟩
  refine brf rfl ?_
  refine xld rfl rfl ?_
  exact xret (M := [pts b 266 [.slice on n cn, v1, v2, v3, v4]]) ⟨rfl, rfl⟩

theorem lasts_spec (b n : Nat) (on : Option Addr) (cn : Nat) (v2 v3 v4 : Value) (ol : Option Addr) (cl : Nat) (lasts : List UInt8) (hn : 0 < n) (hl : lasts.length ≤ 2147483648) :
    FnSpec Try.prog 99 [.pointer (some ⟨b, 0, none⟩)] [pts b 266 [.slice on n cn, .slice ol lasts.length cl, v2, v3, v4], sof 1 eB ol cl lasts]
    (Ret fun v L => ∃ o c, v = .slice o lasts.length c ∧ L = [vof 5 1 eB o c lasts, pts b 266 [.slice on n cn, .slice ol lasts.length cl, v2, v3, v4]]) := by
  refine .intro ttOK (fun _ _ => Try.call99 _ _) Try.func99 rfl rfl rfl rfl ?_
  refine xcallr (none_spec b n on cn (.slice ol lasts.length cl) v2 v3 v4 hn) ?_
  rintro _ _ ⟨rfl, rfl⟩
  refine brf rfl ?_
  refine xld rfl rfl ?_
  refine xcallr (clone_spec ol cl lasts hl) ?_
  rintro _ _ ⟨o1, c1, rfl, rfl⟩
  exact xret (M := [vof 5 1 eB o1 c1 lasts, pts b 266 [.slice on n cn, .slice ol lasts.length cl, v2, v3, v4]]) ⟨o1, c1, rfl, rfl⟩

theorem ofs_zero (oa : Option Addr) (cp k : Nat) : ofs oa cp 0 k = oa := by
  unfold ofs
  split
  · rfl
  · cases oa with
    | none => rfl
    | some a => rw [Option.map_some, Nat.zero_mul, ← plus_eq]; rfl

theorem of_spec (ox : Option Addr) (cx : Nat) (ys : List UInt8) (h0 : 0 < ys.length) (h1 : ys.length ≤ 1000000) :
    FnSpec Try.prog 143 [.slice ox ys.length cx] [sof 1 eB ox cx ys] (Ret fun v L => ∃ b, v = .tuple #[.pointer (some ⟨b, 0, none⟩), .int .i64 0] ∧ DK b ⟨ys, ys, [], 0, -1⟩ L) := by
  refine .intro ttOK (fun _ _ => Try.call143 _ _) Try.func143 rfl rfl rfl rfl ?_
  refine brn (by omega) ?_
  refine brn (by omega) ?_
  refine xcallr (clone_spec ox cx ys (by omega)) ?_
  rintro _ _ ⟨o1, c1, rfl, rfl⟩
  refine xbld rfl rfl rfl ?_
  refine xcallr (clone_spec ox cx ys (by omega)) ?_
  rintro _ _ ⟨o2, c2, rfl, rfl⟩
  refine xbld rfl rfl rfl ?_
  refine xnewq [.slice o1 ys.length c1, .slice o2 ys.length c2, .slice none 0 0, .int .i64 0, .int .i64 (-1)] rfl fun b => ?_
  refine rshare o2 ?_
  refine r_ent (Ent.vof0 259 2 eW _) ?_
  refine r_ent (Ent.allS_nil _) ?_
  exact xret (M := [pts b 266 [.slice o1 ys.length c1, .slice o2 ys.length c2, .slice none 0 0, .int .i64 0, .int .i64 (-1)], vof 5 1 eB o1 c1 ys, sof 1 eB o2 c2 ys, vof 259 2 eW none 0 [], allS []]) ⟨b, rfl, o1, c1, o2, c2, none, 0, [], rfl, rfl⟩

theorem read_spec (b : Nat) (on : Option Addr) (cn : Nat) (now : List UInt8) (v1 v2 v3 v4 : Value) (n0 : 0 < now.length) (n1 : now.length ≤ 1000000) :
    FnSpec Try.prog 103 [.pointer (some ⟨b, 0, none⟩), .int .i64 0, .int .i64 now.length] [pts b 266 [.slice on now.length cn, v1, v2, v3, v4], vof 5 1 eB on cn now]
    (Ret fun v L => ∃ o c, v = .tuple #[.slice o now.length c, .int .i64 0] ∧ L = [pts b 266 [.slice on now.length cn, v1, v2, v3, v4], vof 5 1 eB on cn now, vof 5 1 eB o c now]) := by
  refine .intro ttOK (fun _ _ => Try.call103 _ _) Try.func103 rfl rfl rfl rfl ?_
  refine xcallr (none_spec b now.length on cn v1 v2 v3 v4 n0) ?_
  rintro _ _ ⟨rfl, rfl⟩
  refine brf rfl ?_
  refine brf rfl ?_
  refine xcallr (there_spec b now.length on cn v1 v2 v3 v4 0 now.length (by omega) (by omega) (by omega)) ?_
  rintro _ _ ⟨rfl, rfl⟩
  refine brf (by simp) ?_
  refine xld rfl rfl ?_
  refine arj (m := now.length) (by omega) (by omega) ?_
  refine xslv (k := 1) rfl (l := 0) (.is rfl) (h := now.length) (.is rfl) rfl (Nat.zero_le _) (Nat.le_refl _) ?_
  rw [ofs_zero, Nat.sub_zero, Nat.sub_zero]
  refine xcallr (clone_specv on cn now (by omega)) ?_
  rintro _ _ ⟨o1, c1, rfl, rfl⟩
  exact xret (M := [pts b 266 [.slice on now.length cn, v1, v2, v3, v4], vof 5 1 eB on cn now, vof 5 1 eB o1 c1 now]) ⟨o1, c1, rfl, rfl⟩

theorem reads_spec (b n : Nat) (on : Option Addr) (cn : Nat) (v1 v2 v3 v4 : Value) (a m : Int) (n0 : 0 < n) (n1 : n ≤ 1000000) (ha : -100000 ≤ a ∧ a ≤ 100000) (hm : m ≤ 100000000) (hr : m < 0 ∨ n < a + m) :
    FnSpec Try.prog 103 [.pointer (some ⟨b, 0, none⟩), .int .i64 a, .int .i64 m] [pts b 266 [.slice on n cn, v1, v2, v3, v4]]
    (Ret fun v L => v = .tuple #[.slice none 0 0, .int .i64 (if m < 0 then 2 else 4)] ∧ L = [pts b 266 [.slice on n cn, v1, v2, v3, v4]]) := by
  refine .intro ttOK (fun _ _ => Try.call103 _ _) Try.func103 rfl rfl rfl rfl ?_
  by_cases h : m < 0
  · refine xcallr (none_spec b n on cn v1 v2 v3 v4 n0) ?_
    rintro _ _ ⟨rfl, rfl⟩
    refine brf rfl ?_
    refine bry (by omega) ?_
    exact xret (M := [pts b 266 [.slice on n cn, v1, v2, v3, v4]]) ⟨by rw [if_pos h]; rfl, rfl⟩
  · refine xcallr (none_spec b n on cn v1 v2 v3 v4 n0) ?_
    rintro _ _ ⟨rfl, rfl⟩
    refine brf rfl ?_
    refine brn (by omega) ?_
    refine xcallr (there_spec b n on cn v1 v2 v3 v4 a m (by omega) (by omega) (by omega)) ?_
    rintro _ _ ⟨rfl, rfl⟩
    refine brt (by rw [decide_eq_false (by omega)]; rfl) ?_
    exact xret (M := [pts b 266 [.slice on n cn, v1, v2, v3, v4]]) ⟨by rw [if_neg h]; rfl, rfl⟩

/-- Among 0 to n. -/
def amg (k : Int) (n : Nat) : Nat := (k % (n + 1 : Int)).toNat
theorem among_spec (k : Int) (n : Nat) (hn : n ≤ 1000000) : FnSpec Try.prog 188 [.int .i64 k, .int .i64 n] [] (Ret fun v L => v = .int .i64 (amg k n) ∧ L = []) := by
  refine .intro ttOK (fun _ _ => Try.call188 _ _) Try.func188 rfl rfl rfl rfl ?_
  refine ari (by omega) ?_
  refine xrem (by omega) ?_
  have h0 := Int.emod_nonneg k (show ((n : Int) + 1) ≠ 0 by omega)
  have h1 := Int.emod_lt_of_pos k (show (0 : Int) < n + 1 by omega)
  refine brd (fun h => ?_) (fun h => ?_)
  · have e : k.tmod (n + 1) + (n + 1) = (amg k n : Int) := by
      unfold amg
      rw [Int.tmod_eq_emod] at h ⊢
      split at h
      · omega
      · rename_i hh
        rw [if_neg hh]
        omega
    refine ari (by omega) ?_
    refine arj e (by unfold amg; omega) ?_
    exact xret (M := []) ⟨rfl, rfl⟩
  · have e : k.tmod (n + 1) = (amg k n : Int) := by
      unfold amg
      rw [Int.tmod_eq_emod] at h ⊢
      split at h
      · rename_i hh
        rw [if_pos hh]
        omega
      · omega
    rw [e]
    exact xret (M := []) ⟨rfl, rfl⟩
end Go.X
