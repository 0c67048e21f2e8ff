/- Disks: what each call does. -/
import Derived.Test.YtbgjlghhcclooaaXCpy
import Derived.Test.YtbgjlghhcclooaaXLift
import Derived.Test.YtbgjlghhcclooaaB1
namespace Go.X
open Go Go.Proofs

theorem none_spec (b n : Nat) (on : Option Addr) (cn : Nat) (v1 v2 v3 v4 : Value) (hn : 0 < n) : FnSpec Try.prog 146 [.pointer (some ⟨b, 0, none⟩)] [pts b 266 [.slice on n cn, v1, v2, v3, v4]]
    (Ret fun v L => v = .bool false ∧ L = [pts b 266 [.slice on n cn, v1, v2, v3, v4]]) := by
  refine .intro ttOK (fun _ _ => Try.call146 _ _) Try.func146 rfl rfl rfl rfl ?_
  refine xld rfl rfl ?_
  refine xret (M := [pts b 266 [.slice on n cn, v1, v2, v3, v4]]) ⟨?_, rfl⟩
  show Value.bool ((n : Int) == 0) = _
  congr 1
  simp; omega

theorem there_spec (b n : Nat) (on : Option Addr) (cn : Nat) (v1 v2 v3 v4 : Value) (a m : Int) (hn : n ≤ 2147483648) (ha : -2147483648 ≤ a ∧ a ≤ 2147483648) (hm : 0 ≤ m ∧ m ≤ 2147483648) :
    FnSpec Try.prog 147 [.pointer (some ⟨b, 0, none⟩), .int .i64 a, .int .i64 m] [pts b 266 [.slice on n cn, v1, v2, v3, v4]]
    (Ret fun v L => v = .bool (decide (0 ≤ a ∧ a + m ≤ n)) ∧ L = [pts b 266 [.slice on n cn, v1, v2, v3, v4]]) := by
  refine .intro ttOK (fun _ _ => Try.call147 _ _) Try.func147 rfl rfl rfl rfl ?_
  by_cases h0 : 0 ≤ a
  · refine bry h0 ?_
    by_cases h1 : a ≤ n
    · refine xld rfl rfl ?_
      refine bry (by omega) ?_
      refine xld rfl rfl ?_
      refine ari (by omega) ?_
      refine xret (M := [pts b 266 [.slice on n cn, v1, v2, v3, v4]]) ⟨?_, rfl⟩
      show Value.bool (decide (m ≤ (n : Int) - a)) = _
      congr 1
      rw [Bool.eq_iff_iff]; simp; omega
    · refine xld rfl rfl ?_
      refine brn (by omega) ?_
      refine xret (M := [pts b 266 [.slice on n cn, v1, v2, v3, v4]]) ⟨?_, rfl⟩
      rw [decide_eq_false (by omega)]; rfl
  · refine brn h0 ?_
    refine xret (M := [pts b 266 [.slice on n cn, v1, v2, v3, v4]]) ⟨?_, rfl⟩
    rw [decide_eq_false (by omega)]; rfl

/-- A step is done, if it may be. -/
theorem step_spec (b : Nat) (v0 v1 v2 : Value) (st ar : Int) (f : FuncId) (caps : Array Value) (M : List Assn) (Q : List Assn → Prop) (hs : 0 ≤ st ∧ st ≤ 2147483648) (ha : -1 ≤ ar ∧ ar ≤ 2147483648)
    (h : ar ≠ 0 → FnSpec Try.prog f caps.toList (pts b 266 [v0, v1, v2, .int .i64 (st + 1), .int .i64 (if ar > 0 then ar - 1 else ar)] :: M) (Ret fun _ L => Q L)) :
    FnSpec Try.prog 148 [.pointer (some ⟨b, 0, none⟩), .func (.func f) #[] caps] (pts b 266 [v0, v1, v2, .int .i64 st, .int .i64 ar] :: M)
      (Ret fun v L => (ar = 0 ∧ v = .int .i64 180 ∧ L = pts b 266 [v0, v1, v2, .int .i64 st, .int .i64 ar] :: M) ∨ (ar ≠ 0 ∧ v = .int .i64 0 ∧ Q L)) := by
  refine .intro ttOK (fun _ _ => Try.call148 _ _) Try.func148 rfl rfl rfl rfl ?_
  refine xld rfl rfl ?_
  refine brq (fun h0 => ?_) (fun h0 => ?_)
  · exact xret (M := pts b 266 [v0, v1, v2, .int .i64 st, .int .i64 ar] :: M) (Or.inl ⟨h0, rfl, rfl⟩)
  have h := h h0
  refine xld rfl rfl ?_
  refine brd (fun h1 => ?_) (fun h1 => ?_)
  · rw [if_pos h1] at h
    refine xld rfl rfl ?_
    refine ari (by omega) ?_
    refine xst rfl rfl rfl ?_
    refine xld rfl rfl ?_
    refine ari (by omega) ?_
    refine xst rfl rfl rfl ?_
    refine xcallr (M := pts b 266 [v0, v1, v2, .int .i64 (st + 1), .int .i64 (ar - 1)] :: M) h ?_
    rintro _ N hQ
    exact xret (M := N) (Or.inr ⟨h0, rfl, hQ⟩)
  · rw [if_neg h1] at h
    refine xld rfl rfl ?_
    refine ari (by omega) ?_
    refine xst rfl rfl rfl ?_
    refine xcallr (M := pts b 266 [v0, v1, v2, .int .i64 (st + 1), .int .i64 ar] :: M) h ?_
    rintro _ N hQ
    exact xret (M := N) (Or.inr ⟨h0, rfl, hQ⟩)

/-- A write that waits. -/
structure Wr where
  at_ : Nat
  bs : BS
def eW (x : Wr) : List Value := [.int .i64 x.at_, .slice x.bs.oa x.bs.xs.length x.bs.cap]
theorem fineW (x : Wr) : fine 2 (eW x) := ⟨rfl, rfl⟩
abbrev wr (at_ : Nat) (oa : Option Addr) (cap : Nat) (xs : List UInt8) : Wr := ⟨at_, ⟨oa, cap, xs⟩⟩
abbrev WKey := Nat × List UInt8
def Wr.key (x : Wr) : WKey := (x.at_, x.bs.xs)

theorem onto_spec (at_ n : Nat) (ox : Option Addr) (cx : Nat) (ys : List UInt8) (on : Option Addr) (cn : Nat) (now : List UInt8) (hn : n ≤ ys.length) (ha : at_ + n ≤ now.length) :
    FnSpec Try.prog 150 [.agg #[.int .i64 at_, .slice ox ys.length cx], .slice on now.length cn, .int .i64 n] [vof 5 1 eB on cn now, sof 1 eB ox cx ys]
      (Ret fun v L => v = .tuple #[] ∧ L = [vof 5 1 eB on cn (over now at_ (ys.take n))]) := by
  refine .intro ttOK (fun _ _ => Try.call150 _ _) Try.func150 rfl rfl rfl rfl ?_
  refine xnewq [.int .i64 at_, .slice ox ys.length cx] rfl fun b => ?_
  refine cfact on ?_
  refine xdraw [pts b 259 [.int .i64 at_, .slice ox ys.length cx], fact (now.length ≤ cn), sof 1 eB ox cx ys] (.op 0 2 <| .op 1 2 <| .op 4 2 <| .op 6 2 <| .op 2 1 <| .op 3 1 <| .op 5 1 <| .op 7 1 <| .op 8 0 <| .done) [8] (by decide +kernel) Takes.ent ?_
  refine hld rfl rfl ?_
  refine hslf (k := 1) now.length rfl (l := at_) (.is rfl) (h := now.length) .no (by omega) (Nat.le_refl _) ?_
  refine hld rfl rfl ?_
  refine hslc rfl .no (h := n) (.is rfl) rfl (Nat.zero_le _) hn fun o1 c1 => ?_
  rw [List.drop_zero]
  refine xcopyv (over now at_ (ys.take n)) ?_ rfl rfl (by omega) ?_
  · rw [List.take_of_length_le (by simp; omega)]
  refine held ?_
  exact xret (M := [vof 5 1 eB on cn (over now at_ (ys.take n))]) ⟨rfl, rfl⟩

/-- A disk. -/
abbrev dsk (b : Nat) (on : Option Addr) (cn : Nat) (now : List UInt8) (ol : Option Addr) (cl : Nat) (lasts : List UInt8) (ow : Option Addr) (cw : Nat) (ws : List Wr) (st ar : Int) : List Assn :=
  [pts b 266 [.slice on now.length cn, .slice ol lasts.length cl, .slice ow ws.length cw, .int .i64 st, .int .i64 ar], vof 5 1 eB on cn now, sof 1 eB ol cl lasts, vof 259 2 eW ow cw ws, allS (ws.map Wr.bs)]
structure DS where
  now : List UInt8
  lasts : List UInt8
  ws : List WKey
  st : Int
  ar : Int
/-- A disk stands so. -/
def DK (b : Nat) (s : DS) (L : List Assn) : Prop := ∃ on cn ol cl ow cw ws, ws.map Wr.key = s.ws ∧ L = dsk b on cn s.now ol cl s.lasts ow cw ws s.st s.ar

theorem ws_snoc {ws : List Wr} {k : List WKey} (h : ws.map Wr.key = k) (x : Wr) : (ws ++ [x]).map Wr.key = k ++ [x.key] := by rw [List.map_append, h]; rfl

theorem allS_snoc {oa : Option Addr} {cap : Nat} {xs : List UInt8} {ws : List Wr} {at_ : Nat} (L : List Assn) : Ent (sof 1 eB oa cap xs :: allS (ws.map Wr.bs) :: L) (allS ((ws ++ [wr at_ oa cap xs]).map Wr.bs) :: L) :=
  Ent.both (A := sof 1 eB oa cap xs) (B := allS (ws.map Wr.bs)) (C := allS ((ws ++ [wr at_ oa cap xs]).map Wr.bs)) (fun _ _ h => Pers.out _ _ h) (fun F h k a b => ⟨b.1, fun y m => by
    rw [List.map_append] at m
    rcases List.mem_append.1 m with m | m
    · exact b.2 y m
    · simp only [List.map_cons, List.map_nil, List.mem_singleton] at m
      subst m
      have ha : sofP 1 eB oa cap xs F h := a
      have := ha.1; subst this; exact ha⟩) L
theorem rSnoc {v : Value} {Q : Ending → List Assn → Prop} {L L' : List Assn} (oa : Option Addr) (cap : Nat) (xs : List UInt8) (ws : List Wr) (at_ : Nat) [t : Takes [sof 1 eB oa cap xs, allS (ws.map Wr.bs)] L L'] (q : RetVC v (allS ((ws ++ [wr at_ oa cap xs]).map Wr.bs) :: L') Q) : RetVC v L Q :=
  r_ent (t.out.trans (allS_snoc L')) q

theorem write1_spec (bw bd b at_ : Nat) (ox : Option Addr) (cx : Nat) (ys : List UInt8) (on : Option Addr) (cn : Nat) (now : List UInt8) (ol : Option Addr) (cl : Nat) (lasts : List UInt8) (ow : Option Addr) (cw : Nat) (ws : List Wr) (st ar : Int)
    (ha : at_ + ys.length ≤ now.length) (hw : ws.length ≤ 1000000) :
    FnSpec Try.prog 149 [.pointer (some ⟨bw, 0, none⟩), .pointer (some ⟨bd, 0, none⟩)]
      (dsk b on cn now ol cl lasts ow cw ws st ar ++ [pts bw 259 [.int .i64 at_, .slice ox ys.length cx], pts bd 188 [.pointer (some ⟨b, 0, none⟩)], sof 1 eB ox cx ys])
      (Ret fun _ L => ∃ on cn ol cl ow cw, L = dsk b on cn (over now at_ ys) ol cl lasts ow cw (ws ++ [wr at_ ox cx ys]) st ar) := by
  refine .intro ttOK (fun _ _ => Try.call149 _ _) Try.func149 rfl rfl rfl rfl ?_
  refine xdraw [pts bw 259 [.int .i64 at_, .slice ox ys.length cx], pts bd 188 [.pointer (some ⟨b, 0, none⟩)], pts b 266 [.slice on now.length cn, .slice ol lasts.length cl, .slice ow ws.length cw, .int .i64 st, .int .i64 ar]] (.op 6 2 <| .op 0 1 <| .op 1 1 <| .op 2 2 <| .op 3 2 <| .op 4 2 <| .op 5 1 <| .op 7 1 <| .op 8 2 <| .op 9 0 <| .done) [9] (by decide +kernel) Takes.ent ?_
  refine hlds [.int .i64 at_, .slice ox ys.length cx] rfl rfl rfl ?_
  refine hld rfl rfl ?_
  refine hld rfl rfl ?_
  refine hld rfl rfl ?_
  refine xcallr (onto_spec at_ ys.length ox cx ys on cn now (Nat.le_refl _) ha) ?_
  rintro _ _ ⟨rfl, rfl⟩
  rw [List.take_length]
  refine held ?_
  refine xdraw [pts bw 259 [.int .i64 at_, .slice ox ys.length cx], pts bd 188 [.pointer (some ⟨b, 0, none⟩)], pts b 266 [.slice on now.length cn, .slice ol lasts.length cl, .slice ow ws.length cw, .int .i64 st, .int .i64 ar]] (.op 0 1 <| .op 1 1 <| .op 2 2 <| .op 3 2 <| .op 4 1 <| .op 5 1 <| .op 6 0 <| .op 7 0 <| .op 8 2 <| .op 9 2 <| .op 10 0 <| .done) [6, 7] (by decide +kernel) Takes.ent ?_
  refine hld rfl rfl ?_
  refine hld rfl rfl ?_
  refine hld rfl rfl ?_
  refine hlds [.int .i64 at_, .slice ox ys.length cx] rfl rfl rfl ?_
  refine xrow (el := 259) (k := 2) rfl rfl rfl rfl fun b2 => ?_
  refine held ?_
  refine xappl [wr at_ ox cx ys] rfl rfl rfl rfl (fun y _ => fineW y) (by simp; omega) fun o3 c3 => ?_
  refine held ?_
  refine xst rfl rfl rfl ?_
  refine rSnoc ox cx ys ws at_ ?_
  exact xret (M := [pts b 266 [.slice on now.length cn, .slice ol lasts.length cl, .slice o3 (ws ++ [wr at_ ox cx ys]).length c3, .int .i64 st, .int .i64 ar], vof 5 1 eB on cn (over now at_ ys), sof 1 eB ol cl lasts, vof 259 2 eW o3 c3 (ws ++ [wr at_ ox cx ys]), allS ((ws ++ [wr at_ ox cx ys]).map Wr.bs)]) ⟨on, cn, ol, cl, o3, c3, by rw [dsk, over_length _ _ _ ha]⟩

/-- The disk's cells. -/
abbrev dcs (on : Option Addr) (cn : Nat) (now : List UInt8) (ol : Option Addr) (cl : Nat) (lasts : List UInt8) (ow : Option Addr) (cw : Nat) (ws : List Wr) (st ar : Int) : List Value :=
  [.slice on now.length cn, .slice ol lasts.length cl, .slice ow ws.length cw, .int .i64 st, .int .i64 ar]
theorem dnone (b : Nat) (on : Option Addr) (cn : Nat) (now : List UInt8) (ol : Option Addr) (cl : Nat) (lasts : List UInt8) (ow : Option Addr) (cw : Nat) (ws : List Wr) (st ar : Int) (hn : 0 < now.length) :
    FnSpec Try.prog 146 [.pointer (some ⟨b, 0, none⟩)] [pts b 266 (dcs on cn now ol cl lasts ow cw ws st ar)] (Ret fun v L => v = .bool false ∧ L = [pts b 266 (dcs on cn now ol cl lasts ow cw ws st ar)]) := none_spec b _ on cn _ _ _ _ hn
theorem dthere (b : Nat) (on : Option Addr) (cn : Nat) (now : List UInt8) (ol : Option Addr) (cl : Nat) (lasts : List UInt8) (ow : Option Addr) (cw : Nat) (ws : List Wr) (st ar : Int) (a m : Int) (hn : now.length ≤ 2147483648) (ha : -2147483648 ≤ a ∧ a ≤ 2147483648) (hm : 0 ≤ m ∧ m ≤ 2147483648) :
    FnSpec Try.prog 147 [.pointer (some ⟨b, 0, none⟩), .int .i64 a, .int .i64 m] [pts b 266 (dcs on cn now ol cl lasts ow cw ws st ar)]
      (Ret fun v L => v = .bool (decide (0 ≤ a ∧ a + m ≤ now.length)) ∧ L = [pts b 266 (dcs on cn now ol cl lasts ow cw ws st ar)]) := there_spec b _ on cn _ _ _ _ a m hn ha hm

theorem over_same {now : List UInt8} {a : Nat} {ys : List UInt8} (h : a + ys.length ≤ now.length) : (over now a ys).length = now.length := over_length now a ys h

/-- What a write does. -/
def wrS (s : DS) (a : Int) (ys : List UInt8) : Int × DS :=
  if 0 ≤ a ∧ a + ys.length ≤ s.now.length then (if s.ar = 0 then (180, s) else (0, { s with now := over s.now a.toNat ys, ws := s.ws ++ [(a.toNat, ys)], st := s.st + 1, ar := if s.ar > 0 then s.ar - 1 else s.ar })) else (4, s)
/-- What a disk is within. -/
structure DOK (s : DS) : Prop where
  n0 : 0 < s.now.length
  n1 : s.now.length ≤ 1000000
  st : 0 ≤ s.st ∧ s.st ≤ 1000000
  ar : -1 ≤ s.ar ∧ s.ar ≤ 1000000
  ws : s.ws.length ≤ 100000

theorem write_spec (b : Nat) (a : Int) (ox : Option Addr) (cx : Nat) (ys : List UInt8) (on : Option Addr) (cn : Nat) (now : List UInt8) (ol : Option Addr) (cl : Nat) (lasts : List UInt8) (ow : Option Addr) (cw : Nat) (ws : List Wr) (st ar : Int)
    (s : DS) (hs : s = ⟨now, lasts, ws.map Wr.key, st, ar⟩) (ok : DOK s) (ha : -100000 ≤ a ∧ a ≤ 100000) (hy : ys.length ≤ 100000) :
    FnSpec Try.prog 94 [.pointer (some ⟨b, 0, none⟩), .int .i64 a, .slice ox ys.length cx] (dsk b on cn now ol cl lasts ow cw ws st ar ++ [sof 1 eB ox cx ys])
      (Ret fun v L => v = .int .i64 (wrS s a ys).1 ∧ DK b (wrS s a ys).2 L) := by
  subst hs
  obtain ⟨n0, n1, hst, har, hws⟩ := ok
  simp only at n0 n1 hst har hws
  rw [List.length_map] at hws
  refine .intro ttOK (fun _ _ => Try.call94 _ _) Try.func94 rfl rfl rfl rfl ?_
  refine xnew fun bd => ?_
  refine xld rfl rfl ?_
  refine xcallr (dnone b on cn now ol cl lasts ow cw ws st ar n0) ?_
  rintro _ _ ⟨rfl, rfl⟩
  refine brf rfl ?_
  refine xld rfl rfl ?_
  refine xcallr (dthere b on cn now ol cl lasts ow cw ws st ar a ys.length (by omega) (by omega) (by omega)) ?_
  rintro _ _ ⟨rfl, rfl⟩
  by_cases h : 0 ≤ a ∧ a + ys.length ≤ now.length
  · refine brf (by simp [h]) ?_
    refine xcallr (clone_spec ox cx ys (by omega)) ?_
    rintro _ _ ⟨o1, c1, rfl, rfl⟩
    refine xbld rfl rfl rfl ?_
    refine xnew fun _ => ?_
    refine xstq [.int .i64 a, .slice o1 ys.length c1] rfl rfl rfl rfl ?_
    refine xld rfl rfl ?_
    obtain ⟨m, rfl⟩ : ∃ m : Nat, a = m := ⟨a.toNat, by omega⟩
    refine xshare o1 ?_
    refine xcallr (step_spec b (.slice on now.length cn) (.slice ol lasts.length cl) (.slice ow ws.length cw) st ar 149 #[.pointer (some ⟨_, 0, none⟩), .pointer (some ⟨bd, 0, none⟩)]
      [vof 5 1 eB on cn now, sof 1 eB ol cl lasts, vof 259 2 eW ow cw ws, allS (ws.map Wr.bs), pts _ 259 [.int .i64 m, .slice o1 ys.length c1], pts bd 188 [.pointer (some ⟨b, 0, none⟩)], sof 1 eB o1 c1 ys] _ (by omega) (by omega)
      (fun _ => write1_spec _ bd b m o1 c1 ys on cn now ol cl lasts ow cw ws _ _ (by omega) (by omega))) ?_
    rintro _ _ (⟨h0, rfl, rfl⟩ | ⟨h0, rfl, on, cn, ol, cl, ow, cw, rfl⟩)
    · have e : wrS ⟨now, lasts, ws.map Wr.key, st, ar⟩ m ys = (180, ⟨now, lasts, ws.map Wr.key, st, ar⟩) := by unfold wrS; rw [if_pos h, if_pos h0]
      rw [e]
      exact xret (M := dsk b on cn now ol cl lasts ow cw ws st ar) ⟨rfl, on, cn, ol, cl, ow, cw, ws, rfl, rfl⟩
    · have e : wrS ⟨now, lasts, ws.map Wr.key, st, ar⟩ m ys = (0, ⟨over now m ys, lasts, ws.map Wr.key ++ [(m, ys)], st + 1, if ar > 0 then ar - 1 else ar⟩) := by unfold wrS; rw [if_pos h, if_neg h0]; rfl
      rw [e]
      exact xret (M := dsk b on cn (over now m ys) ol cl lasts ow cw (ws ++ [wr m o1 c1 ys]) (st + 1) (if ar > 0 then ar - 1 else ar)) ⟨rfl, on, cn, ol, cl, ow, cw, _, ws_snoc rfl _, rfl⟩
  · refine brt (by simp only [decide_eq_false h]; rfl) ?_
    have e : wrS ⟨now, lasts, ws.map Wr.key, st, ar⟩ a ys = (4, ⟨now, lasts, ws.map Wr.key, st, ar⟩) := if_neg h
    rw [e]
    exact xret (M := dsk b on cn now ol cl lasts ow cw ws st ar) ⟨rfl, on, cn, ol, cl, ow, cw, ws, rfl, rfl⟩
end Go.X
