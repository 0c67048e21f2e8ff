/- TopDisked: the walk. -/
import Derived.Test.YtbgjlghhcclooaaD7
namespace Go.X
open Go Go.Proofs

abbrev A4 := UInt8 × UInt8 × UInt8 × UInt8
def eA (x : A4) : List Value := [.int .u8 x.1.toNat, .int .u8 x.2.1.toNat, .int .u8 x.2.2.1.toNat, .int .u8 x.2.2.2.toNat]

/-- Where one stands. -/
structure GI where
  b : Nat
  on : Option Addr
  cn : Nat
  ol : Option Addr
  cl : Nat
  ow : Option Addr
  cw : Nat
  ws : List Wr
  o8 : Option Addr
  c8 : Nat
  o9 : Option Addr
  c9 : Nat
  o12 : Option Addr
  c12 : Nat
  vs : List Wr
  now : List UInt8
  lasts : List UInt8
  st : Int
  ar : Int
abbrev GI.M (g : GI) (b10 b11 : Nat) : List Assn :=
  dsk g.b g.on g.cn g.now g.ol g.cl g.lasts g.ow g.cw g.ws g.st g.ar ++ [sof 1 eB g.o8 g.c8 g.lasts, vof 5 1 eB g.o9 g.c9 g.now, sof 2 eW g.o12 g.c12 g.vs, allS (g.vs.map Wr.bs), pts b10 3 [.int .i64 g.st], pts b11 3 [.int .i64 g.ar]]
structure GOK (n k : Nat) (g : GI) : Prop where
  now : g.now.length = n
  lasts : g.lasts.length = n
  keys : g.ws.map Wr.key = g.vs.map Wr.key
  len : g.vs.length ≤ k
  st : 0 ≤ g.st ∧ g.st ≤ k
  ar : -1 ≤ g.ar ∧ g.ar ≤ 1000
  fit : ∀ x ∈ g.vs, x.at_ + x.bs.xs.length ≤ n

theorem crL_succ {ws : List WKey} {k : Nat} {torn : Int} {lasts : List UInt8} {j : Nat} {x : WKey} (h : ws[j]? = some x) : crL ws k torn lasts (j + 1) = over (crL ws k torn lasts j) x.1 (x.2.take (keptN k torn j x.2.length)) := by
  rw [crL, h]

theorem eSnoc {L L' : List Assn} (oa : Option Addr) (cap : Nat) (xs : List UInt8) (ws : List Wr) (at_ : Nat) [t : Takes [sof 1 eB oa cap xs, allS (ws.map Wr.bs)] L L'] : Ent L (allS ((ws ++ [wr at_ oa cap xs]).map Wr.bs) :: L') :=
  t.out.trans (allS_snoc L')

theorem tmodu (m k : Nat) : ((m : Int)).tmod ((k : Nat) : Int) = ((m % k : Nat) : Int) := by
  rw [Int.tmod_eq_emod_of_nonneg (by omega)]; rfl

theorem disked_spec (size : UInt8) (oa : Option Addr) (cap : Nat) (l : List A4) (hl : l.length ≤ 100) : FnSpec Try.prog 39 [.int .u8 size.toNat, .slice oa l.length cap] [sof 4 eA oa cap l] (Ret fun v L => v = .bool true ∧ L = []) := by
  refine .intro ttOK (fun _ _ => Try.call39 _ _) Try.func39 rfl rfl rfl rfl ?_
  refine arj (m := ((size.toNat % 40 : Nat) : Int)) (tmodu _ _) (by omega) ?_
  refine arj (m := ((1 + size.toNat % 40 : Nat) : Int)) (by omega) (by omega) ?_
  have hn : 1 ≤ 1 + size.toNat % 40 ∧ 1 + size.toNat % 40 ≤ 40 := by omega
  revert hn
  generalize 1 + size.toNat % 40 = n
  intro hn
  refine xcallr (new_spec n (by omega) (by omega)) ?_
  rintro _ _ ⟨b, rfl, on, cn, ol, cl, ow, cw, ws, hk, rfl⟩
  refine brf rfl ?_
  obtain rfl : ws = [] := by simpa using hk
  refine xdrawl (.op 0 2 <| .op 2 2 <| .join (.alt (.op 1 0 <| .alt (.op 3 0 <| .alt (.op 4 0 <| .op 5 0 <| .op 6 2 <| .op 7 2 <| .done) (.op 5 0 <| .op 4 0 <| .op 6 2 <| .op 7 2 <| .done)) (.alt (.op 4 0 <| .alt (.op 3 0 <| .op 5 0 <| .op 6 2 <| .op 7 2 <| .done) (.op 5 0 <| .op 6 2 <| .op 3 0 <| .op 7 2 <| .done)) (.op 5 0 <| .alt (.op 3 0 <| .op 4 0 <| .op 6 2 <| .op 7 2 <| .done) (.op 4 0 <| .op 6 2 <| .op 3 0 <| .op 7 2 <| .done)))) (.alt (.op 3 0 <| .alt (.op 1 0 <| .alt (.op 4 0 <| .op 5 0 <| .op 6 2 <| .op 7 2 <| .done) (.op 5 0 <| .op 4 0 <| .op 6 2 <| .op 7 2 <| .done)) (.alt (.op 4 0 <| .alt (.op 1 0 <| .op 5 0 <| .op 6 2 <| .op 7 2 <| .done) (.op 5 0 <| .op 1 0 <| .op 6 2 <| .op 7 2 <| .done)) (.op 5 0 <| .alt (.op 1 0 <| .op 4 0 <| .op 6 2 <| .op 7 2 <| .done) (.op 4 0 <| .op 1 0 <| .op 6 2 <| .op 7 2 <| .done)))) (.alt (.op 4 0 <| .alt (.op 1 0 <| .alt (.op 3 0 <| .op 5 0 <| .op 6 2 <| .op 7 2 <| .done) (.op 5 0 <| .op 6 2 <| .op 3 0 <| .op 7 2 <| .done)) (.alt (.op 3 0 <| .alt (.op 1 0 <| .op 5 0 <| .op 6 2 <| .op 7 2 <| .done) (.op 5 0 <| .op 1 0 <| .op 6 2 <| .op 7 2 <| .done)) (.op 5 0 <| .alt (.op 1 0 <| .op 6 2 <| .op 3 0 <| .op 7 2 <| .done) (.op 3 0 <| .op 1 0 <| .op 6 2 <| .op 7 2 <| .done)))) (.op 5 0 <| .alt (.op 1 0 <| .alt (.op 3 0 <| .op 4 0 <| .op 6 2 <| .op 7 2 <| .done) (.op 4 0 <| .op 6 2 <| .op 3 0 <| .op 7 2 <| .done)) (.alt (.op 3 0 <| .alt (.op 1 0 <| .op 4 0 <| .op 6 2 <| .op 7 2 <| .done) (.op 4 0 <| .op 1 0 <| .op 6 2 <| .op 7 2 <| .done)) (.op 4 0 <| .alt (.op 1 0 <| .op 6 2 <| .op 3 0 <| .op 7 2 <| .done) (.op 3 0 <| .op 1 0 <| .op 6 2 <| .op 7 2 <| .done))))))) <| .op 8 0 <| .op 9 0 <| .done) [] (by decide +kernel) ?_
  refine xmeet (ι := Nat × Nat × Nat × Nat) (fun i => [(1, .v (.slice oa l.length cap)), (5, .v (.int .i64 n)), (6, .v (.pointer (some ⟨b, 0, none⟩))), (8, .v (.slice (some ⟨i.1, 0, none⟩) n n)), (9, .v (.slice (some ⟨i.2.1, 0, none⟩) n n)), (10, .v (.pointer (some ⟨i.2.2.1, 0, none⟩))), (11, .v (.pointer (some ⟨i.2.2.2, 0, none⟩)))])
    (fun i => [vof 5 1 eB (some ⟨i.1, 0, none⟩) n (List.replicate n 0), vof 5 1 eB (some ⟨i.2.1, 0, none⟩) n (List.replicate n 0), pts i.2.2.1 3 [.int .i64 0], pts i.2.2.2 3 [.int .i64 0], sof 4 eA oa cap l] ++ dsk b on cn (List.replicate n 0) ol cl (List.replicate n 0) ow cw [] 0 (-1)) (fun _ => True) ?_ ?_
  · repeat' (first | exact ⟨rfl, (_, _, _, _), ⟨⟨rfl, rfl, rfl, rfl, rfl, rfl, rfl, trivial⟩, Takes.ent, trivial, rfl⟩⟩ | refine xmks (el := 5) (k := 1) eB (0 : UInt8) n rfl rfl rfl rfl rfl rfl (by omega) fun _ => ?_ | refine xnew fun _ => ?_ | apply And.intro)
  rintro ⟨bz1, bz2, b10, b11⟩ -
  refine xst rfl rfl rfl ?_
  refine xst rfl rfl rfl ?_
  refine cshare (some ⟨bz1, 0, none⟩) ?_
  refine c_ent (Ent.sof0 2 eW none 0 (Nat.zero_le _) _) ?_
  refine xloop (ι := Nat × GI) (fun i => [(5, .v (.int .i64 n)), (6, .v (.pointer (some ⟨i.2.b, 0, none⟩))), (8, .v (.slice i.2.o8 i.2.lasts.length i.2.c8)), (9, .v (.slice i.2.o9 i.2.now.length i.2.c9)), (10, .v (.pointer (some ⟨b10, 0, none⟩))), (11, .v (.pointer (some ⟨b11, 0, none⟩))), (12, .v (.slice i.2.o12 i.2.vs.length i.2.c12)), (57, .v (.slice oa l.length cap)), (58, .v (.int .i64 l.length)), (59, .v (.int .i64 i.1))])
    (fun i => sof 4 eA oa cap l :: i.2.M b10 b11) (fun i => i.1 ≤ l.length ∧ GOK n i.1 i.2) (fun i => l.length - i.1)
    (0, { b, on, cn, ol, cl, ow, cw, ws := [], o8 := some ⟨bz1, 0, none⟩, c8 := n, o9 := some ⟨bz2, 0, none⟩, c9 := n, o12 := none, c12 := 0, vs := [], now := List.replicate n 0, lasts := List.replicate n 0, st := 0, ar := -1 })
    ⟨⟨rfl, rfl, by rw [List.length_replicate]; rfl, by rw [List.length_replicate]; rfl, rfl, rfl, rfl, rfl, rfl, rfl, trivial⟩,
      (Takes.ent : Ent _ (sof 4 eA oa cap l :: (dsk b on cn (List.replicate n 0) ol cl (List.replicate n 0) ow cw [] 0 (-1) ++ [sof 1 eB (some ⟨bz1, 0, none⟩) n (List.replicate n 0), vof 5 1 eB (some ⟨bz2, 0, none⟩) n (List.replicate n 0), sof 2 eW none 0 [], allS (([] : List Wr).map Wr.bs), pts b10 3 [.int .i64 0], pts b11 3 [.int .i64 (-1)]]))),
      ⟨Nat.zero_le _, ⟨List.length_replicate, List.length_replicate, rfl, Nat.le_refl _, by simp, by simp, fun x m => by cases m⟩⟩, rfl⟩ (fun _ => rfl) ?_
  rintro ⟨i, g⟩ ⟨hi, hnow, hlasts, hkeys, hlen, hst, har, hfit⟩
  simp only at hi hnow hlasts hkeys hlen hst har hfit
  refine brd (fun hlt => ?_) (fun hge => ?_)
  · have hlt' : i < l.length := by omega
    obtain ⟨x, hx⟩ : ∃ x, l[i]? = some x := ⟨l[i], List.getElem?_eq_getElem hlt'⟩
    refine xidx rfl (Nat.le_refl _) (by omega) ?_
    refine xldes rfl rfl (by assumption) ?_
    obtain ⟨x0, x1, x2, x3⟩ := x
    refine xnew fun b14 => ?_
    refine xstq [.int .u8 x0.toNat, .int .u8 x1.toNat, .int .u8 x2.toNat, .int .u8 x3.toNat] rfl rfl rfl rfl ?_
    refine xdraw [pts b14 68 [.int .u8 x0.toNat, .int .u8 x1.toNat, .int .u8 x2.toNat, .int .u8 x3.toNat]] (.op 3 2 <| .op 4 2 <| .op 0 1 <| .op 1 1 <| .op 2 2 <| .op 5 2 <| .op 6 2 <| .op 11 2 <| .op 7 1 <| .op 8 1 <| .op 9 2 <| .op 10 2 <| .op 12 2 <| .done) [] (by decide +kernel) Takes.ent ?_
    refine ari (by omega) ?_
    refine hidxa 4 1 rfl (by omega) ?_
    refine hld rfl rfl ?_
    have hx0 := x0.toNat_lt
    have hx1 := x1.toNat_lt
    have hx2 := x2.toNat_lt
    have hx3 := x3.toNat_lt
    refine ari (by omega) ?_
    refine prem (by omega) ?_
    have ha1 : x1.toNat % (n + 2) < n + 2 := Nat.mod_lt _ (by omega)
    refine arj (m := ((x1.toNat % (n + 2) : Nat) : Int) - 1) (by rw [show ((n : Int) + 2) = ((n + 2 : Nat) : Int) by omega, tmodu]) (by omega) ?_
    obtain ⟨a, ha, hae⟩ : ∃ a : Int, (-1 ≤ a ∧ a ≤ n) ∧ ((x1.toNat % (n + 2) : Nat) : Int) - 1 = a := ⟨_, by omega, rfl⟩
    rw [hae]
    refine hidxa 4 1 rfl (by omega) ?_
    refine hld rfl rfl ?_
    refine arj (m := ((x2.toNat % 7 : Nat) : Int)) (tmodu _ _) (by omega) ?_
    obtain ⟨m, hm, hme⟩ : ∃ m : Nat, m ≤ 6 ∧ x2.toNat % 7 = m := ⟨_, by omega, rfl⟩
    rw [hme]
    refine xld rfl rfl ?_
    refine xidxa 4 1 rfl (by omega) ?_
    refine xld rfl rfl ?_
    obtain ⟨k8, hk8⟩ : ∃ k8 : Nat, (x0.toNat : Int).tmod ((7 + 1 : Nat) : Int) = (k8 : Int) := ⟨x0.toNat % 8, tmodu _ _⟩
    refine xjoin (ι := Bool) (fun t => [(5, .v (.int .i64 n)), (6, .v (.pointer (some ⟨g.b, 0, none⟩))), (8, .v (.slice g.o8 g.lasts.length g.c8)), (9, .v (.slice g.o9 g.now.length g.c9)), (10, .v (.pointer (some ⟨b10, 0, none⟩))), (11, .v (.pointer (some ⟨b11, 0, none⟩))), (12, .v (.slice g.o12 g.vs.length g.c12)), (15, .v (.int .i64 a)), (57, .v (.slice oa l.length cap)), (58, .v (.int .i64 l.length)), (59, .v (.int .i64 i)), (13, .v (.int .i64 i)), (14, .v (.pointer (some ⟨b14, 0, none⟩))), (16, .v (.int .i64 m)), (17, .v (.bool (g.ar == 0))), (18, .v (.func (.func 91) #[] #[.pointer (some ⟨b10, 0, none⟩), .pointer (some ⟨b11, 0, none⟩)])), (80, .v (.int .u8 ((x0.toNat : Int).tmod ((7 + 1 : Nat) : Int)))), (184, .v (.bool t))]) (fun _ => sof 4 eA oa cap l :: pts b14 68 [.int .u8 x0.toNat, .int .u8 x1.toNat, .int .u8 x2.toNat, .int .u8 x3.toNat] :: g.M b10 b11) (fun t => t = decide (k8 ≤ 3)) (fun _ => rfl) ?_ ?_
    · refine brq (fun h => ?_) (fun h0 => ?_)
      · rw [hk8] at h
        exact ⟨_, ⟨⟨rfl, rfl, rfl, rfl, rfl, rfl, rfl, rfl, rfl, rfl, rfl, rfl, rfl, rfl, rfl, rfl, rfl, rfl, trivial⟩, Takes.ent (M := sof 4 eA oa cap l :: pts b14 68 [.int .u8 x0.toNat, .int .u8 x1.toNat, .int .u8 x2.toNat, .int .u8 x3.toNat] :: g.M b10 b11), by rw [hk8, Bool.eq_iff_iff]; simp; omega, rfl⟩⟩
      rw [hk8] at h0
      refine brq (fun h => ?_) (fun h1 => ?_)
      · rw [hk8] at h
        exact ⟨_, ⟨⟨rfl, rfl, rfl, rfl, rfl, rfl, rfl, rfl, rfl, rfl, rfl, rfl, rfl, rfl, rfl, rfl, rfl, rfl, trivial⟩, Takes.ent (M := sof 4 eA oa cap l :: pts b14 68 [.int .u8 x0.toNat, .int .u8 x1.toNat, .int .u8 x2.toNat, .int .u8 x3.toNat] :: g.M b10 b11), by rw [hk8, Bool.eq_iff_iff]; simp; omega, rfl⟩⟩
      rw [hk8] at h1
      refine brq (fun h => ?_) (fun h2 => ?_)
      · rw [hk8] at h
        exact ⟨_, ⟨⟨rfl, rfl, rfl, rfl, rfl, rfl, rfl, rfl, rfl, rfl, rfl, rfl, rfl, rfl, rfl, rfl, rfl, rfl, trivial⟩, Takes.ent (M := sof 4 eA oa cap l :: pts b14 68 [.int .u8 x0.toNat, .int .u8 x1.toNat, .int .u8 x2.toNat, .int .u8 x3.toNat] :: g.M b10 b11), by rw [hk8, Bool.eq_iff_iff]; simp; omega, rfl⟩⟩
      rw [hk8] at h2
      exact ⟨_, ⟨⟨rfl, rfl, rfl, rfl, rfl, rfl, rfl, rfl, rfl, rfl, rfl, rfl, rfl, rfl, rfl, rfl, rfl, rfl, trivial⟩, Takes.ent (M := sof 4 eA oa cap l :: pts b14 68 [.int .u8 x0.toNat, .int .u8 x1.toNat, .int .u8 x2.toNat, .int .u8 x3.toNat] :: g.M b10 b11), by rw [hk8, Bool.eq_iff_iff]; simp; omega, rfl⟩⟩
    rintro t ht
    refine xjoin (ι := GI) (fun g => [(5, .v (.int .i64 n)), (6, .v (.pointer (some ⟨g.b, 0, none⟩))), (8, .v (.slice g.o8 g.lasts.length g.c8)), (9, .v (.slice g.o9 g.now.length g.c9)), (10, .v (.pointer (some ⟨b10, 0, none⟩))), (11, .v (.pointer (some ⟨b11, 0, none⟩))), (12, .v (.slice g.o12 g.vs.length g.c12)), (15, .v (.int .i64 a)), (57, .v (.slice oa l.length cap)), (58, .v (.int .i64 l.length)), (59, .v (.int .i64 i))]) (fun g => sof 4 eA oa cap l :: g.M b10 b11) (fun g => GOK n (i + 1) g) (fun _ => rfl) ?_ ?_
    · refine br (fun h => ?_) (fun h => ?_)
      · have hob : [UInt8.ofNat (i + 1)].flatMap eB = [.int .u8 ((i + 1 : Nat) : Int)] := by
          rw [List.flatMap_cons, List.flatMap_nil, List.append_nil]
          unfold eB
          rw [UInt8.toNat_ofNat', Nat.mod_eq_of_lt (by omega)]
        refine arj (m := ((i + 1 : Nat) : Int)) rfl (by omega) ?_
        refine arb (by omega) ?_
        refine xrow (el := 5) (k := 1) rfl rfl rfl rfl fun bb => ?_
        refine xown bb 1 eB [UInt8.ofNat (i + 1)] hob (fun x _ => fineB x) (by simp [maxLen]) ?_
        refine xshare (some ⟨bb, 0, none⟩) ?_
        refine xcallr (repeat_spec (some ⟨bb, 0, none⟩) 1 m (UInt8.ofNat (i + 1)) hm) ?_
        rintro _ _ ⟨ob, cb, rfl, rfl⟩
        obtain ⟨ys, hys⟩ : ∃ ys, ys = List.replicate m (UInt8.ofNat (i + 1)) := ⟨_, rfl⟩
        have hyl : m = ys.length := by rw [hys, List.length_replicate]
        rw [← hys]
        clear hob hys
        subst hyl
        have hwl : g.ws.length = g.vs.length := by rw [← List.length_map (f := Wr.key), hkeys, List.length_map]
        have hok : DOK ⟨g.now, g.lasts, g.ws.map Wr.key, g.st, g.ar⟩ := ⟨by show 0 < g.now.length; omega, by show g.now.length ≤ 1000000; omega, by show 0 ≤ g.st ∧ g.st ≤ 1000000; omega, by show -1 ≤ g.ar ∧ g.ar ≤ 1000000; omega, by show (g.ws.map Wr.key).length ≤ 100000; rw [List.length_map]; omega⟩
        have sp := write_spec g.b a ob cb ys g.on g.cn g.now g.ol g.cl g.lasts g.ow g.cw g.ws g.st g.ar _ rfl hok (by omega) (by omega)
        by_cases h1 : 0 ≤ a ∧ a + ys.length ≤ g.now.length
        · refine bry h1.1 ?_
          refine ari (by omega) ?_
          refine bry (by omega) ?_
          refine bru (m := g.ar) (n := 0) (fun h2 => ?_) (fun h2 => ?_)
          · obtain ⟨aN, rfl⟩ : ∃ aN : Nat, a = aN := ⟨a.toNat, by omega⟩
            have h1 : aN + ys.length ≤ g.now.length := by omega
            have e : wrS ⟨g.now, g.lasts, g.ws.map Wr.key, g.st, g.ar⟩ aN ys = (0, ⟨over g.now aN ys, g.lasts, g.ws.map Wr.key ++ [(aN, ys)], g.st + 1, if g.ar > 0 then g.ar - 1 else g.ar⟩) := by unfold wrS; rw [if_pos ⟨by omega, by show (aN : Int) + ys.length ≤ g.now.length; omega⟩, if_neg h2]; rfl
            rw [e] at sp
            refine xslv (k := 1) rfl (l := aN) (.is rfl) (h := g.now.length) .no rfl (by omega) (Nat.le_refl _) ?_
            refine xcopyv (over g.now aN ys) (by rw [List.take_of_length_le (by omega)]) rfl rfl (by omega) ?_
            refine xcallr (cloneW_spec g.o12 g.c12 g.vs (by omega)) ?_
            rintro _ _ ⟨o2, c2, rfl, rfl⟩
            refine xbld rfl rfl rfl ?_
            refine xrow (el := 195) (k := 2) rfl rfl rfl rfl fun b2 => ?_
            refine xappl [wr aN ob cb ys] rfl rfl rfl rfl (fun y _ => fineW y) (by simp; omega) fun o3 c3 => ?_
            refine xshare o3 ?_
            refine xcallr (done_spec b10 b11 g.st g.ar (by omega) (by omega)) ?_
            rintro _ _ ⟨rfl, rfl⟩
            refine xcallr sp ?_
            rintro _ _ ⟨rfl, on', cn', ol', cl', ow', cw', ws', hk', rfl⟩
            refine brun rfl ?_
            refine ⟨{ g with on := on', cn := cn', ol := ol', cl := cl', ow := ow', cw := cw', ws := ws', now := over g.now aN ys, st := g.st + 1, ar := if g.ar > 0 then g.ar - 1 else g.ar, o12 := o3, c12 := c3, vs := g.vs ++ [wr aN ob cb ys] }, ⟨⟨rfl, rfl, rfl, by rw [over_length _ _ _ h1]; rfl, rfl, rfl, rfl, rfl, rfl, rfl, rfl, trivial⟩, ?_,
              ⟨(over_length _ _ _ h1).trans hnow, hlasts, hk'.trans (by show _ = (g.vs ++ [wr aN ob cb ys]).map Wr.key; rw [List.map_append, hkeys]; rfl), by show (g.vs ++ [wr aN ob cb ys]).length ≤ i + 1; rw [List.length_append]; simp; omega, by show 0 ≤ g.st + 1 ∧ g.st + 1 ≤ ((i + 1 : Nat) : Int); omega, by show -1 ≤ (if g.ar > 0 then g.ar - 1 else g.ar) ∧ (if g.ar > 0 then g.ar - 1 else g.ar) ≤ 1000; split <;> omega, ?_⟩, rfl⟩⟩
            · exact (eSnoc ob cb ys g.vs aN).trans (Takes.ent (M := sof 4 eA oa cap l :: (dsk g.b on' cn' (over g.now aN ys) ol' cl' g.lasts ow' cw' ws' (g.st + 1) (if g.ar > 0 then g.ar - 1 else g.ar) ++ [sof 1 eB g.o8 g.c8 g.lasts, vof 5 1 eB g.o9 g.c9 (over g.now aN ys), sof 2 eW o3 c3 (g.vs ++ [wr aN ob cb ys]), allS ((g.vs ++ [wr aN ob cb ys]).map Wr.bs), pts b10 3 [.int .i64 (g.st + 1)], pts b11 3 [.int .i64 (if g.ar > 0 then g.ar - 1 else g.ar)]])))
            · intro x m
              rcases List.mem_append.1 m with m | m
              · exact hfit x m
              · rw [List.mem_singleton] at m
                subst m
                show aN + ys.length ≤ n
                omega
          · have e : wrS ⟨g.now, g.lasts, g.ws.map Wr.key, g.st, g.ar⟩ a ys = (180, ⟨g.now, g.lasts, g.ws.map Wr.key, g.st, g.ar⟩) := by unfold wrS; rw [if_pos h1, if_pos h2]
            rw [e] at sp
            refine xcallr sp ?_
            rintro _ _ ⟨rfl, on', cn', ol', cl', ow', cw', ws', hk', rfl⟩
            refine brun rfl ?_
            exact ⟨{ g with on := on', cn := cn', ol := ol', cl := cl', ow := ow', cw := cw', ws := ws' }, ⟨⟨rfl, rfl, rfl, rfl, rfl, rfl, rfl, rfl, rfl, rfl, rfl, trivial⟩, Takes.ent (M := sof 4 eA oa cap l :: (dsk g.b on' cn' g.now ol' cl' g.lasts ow' cw' ws' g.st g.ar ++ [sof 1 eB g.o8 g.c8 g.lasts, vof 5 1 eB g.o9 g.c9 g.now, sof 2 eW g.o12 g.c12 g.vs, allS (g.vs.map Wr.bs), pts b10 3 [.int .i64 g.st], pts b11 3 [.int .i64 g.ar]])),
            ⟨hnow, hlasts, hk'.trans hkeys, by show g.vs.length ≤ i + 1; omega, by show 0 ≤ g.st ∧ g.st ≤ ((i + 1 : Nat) : Int); omega, har, hfit⟩, rfl⟩⟩
        · have e : wrS ⟨g.now, g.lasts, g.ws.map Wr.key, g.st, g.ar⟩ a ys = (4, ⟨g.now, g.lasts, g.ws.map Wr.key, g.st, g.ar⟩) := if_neg h1
          rw [e] at sp
          refine brd (fun h2 => ?_) (fun h2 => ?_)
          · refine ari (by omega) ?_
            refine brn (by omega) ?_
            refine xcallr sp ?_
            rintro _ _ ⟨rfl, on', cn', ol', cl', ow', cw', ws', hk', rfl⟩
            refine brun rfl ?_
            exact ⟨{ g with on := on', cn := cn', ol := ol', cl := cl', ow := ow', cw := cw', ws := ws' }, ⟨⟨rfl, rfl, rfl, rfl, rfl, rfl, rfl, rfl, rfl, rfl, rfl, trivial⟩, Takes.ent (M := sof 4 eA oa cap l :: (dsk g.b on' cn' g.now ol' cl' g.lasts ow' cw' ws' g.st g.ar ++ [sof 1 eB g.o8 g.c8 g.lasts, vof 5 1 eB g.o9 g.c9 g.now, sof 2 eW g.o12 g.c12 g.vs, allS (g.vs.map Wr.bs), pts b10 3 [.int .i64 g.st], pts b11 3 [.int .i64 g.ar]])),
            ⟨hnow, hlasts, hk'.trans hkeys, by show g.vs.length ≤ i + 1; omega, by show 0 ≤ g.st ∧ g.st ≤ ((i + 1 : Nat) : Int); omega, har, hfit⟩, rfl⟩⟩
          refine xcallr sp ?_
          rintro _ _ ⟨rfl, on', cn', ol', cl', ow', cw', ws', hk', rfl⟩
          refine brun rfl ?_
          exact ⟨{ g with on := on', cn := cn', ol := ol', cl := cl', ow := ow', cw := cw', ws := ws' }, ⟨⟨rfl, rfl, rfl, rfl, rfl, rfl, rfl, rfl, rfl, rfl, rfl, trivial⟩, Takes.ent (M := sof 4 eA oa cap l :: (dsk g.b on' cn' g.now ol' cl' g.lasts ow' cw' ws' g.st g.ar ++ [sof 1 eB g.o8 g.c8 g.lasts, vof 5 1 eB g.o9 g.c9 g.now, sof 2 eW g.o12 g.c12 g.vs, allS (g.vs.map Wr.bs), pts b10 3 [.int .i64 g.st], pts b11 3 [.int .i64 g.ar]])),
            ⟨hnow, hlasts, hk'.trans hkeys, by show g.vs.length ≤ i + 1; omega, by show 0 ≤ g.st ∧ g.st ≤ ((i + 1 : Nat) : Int); omega, har, hfit⟩, rfl⟩⟩
      · have hwl : g.ws.length = g.vs.length := by rw [← List.length_map (f := Wr.key), hkeys, List.length_map]
        have hok : DOK ⟨g.now, g.lasts, g.ws.map Wr.key, g.st, g.ar⟩ := ⟨by show 0 < g.now.length; omega, by show g.now.length ≤ 1000000; omega, by show 0 ≤ g.st ∧ g.st ≤ 1000000; omega, by show -1 ≤ g.ar ∧ g.ar ≤ 1000000; omega, by show (g.ws.map Wr.key).length ≤ 100000; rw [List.length_map]; omega⟩
        refine brq (fun h4 => ?_) (fun h4 => ?_)
        · have sp := flush_spec g.b g.on g.cn g.now g.ol g.cl g.lasts g.ow g.cw g.ws g.st g.ar _ rfl hok
          refine bru (m := g.ar) (n := 0) (fun h2 => ?_) (fun h2 => ?_)
          · have e : flS ⟨g.now, g.lasts, g.ws.map Wr.key, g.st, g.ar⟩ = (0, ⟨g.now, g.now, [], g.st + 1, if g.ar > 0 then g.ar - 1 else g.ar⟩) := if_neg h2
            rw [e] at sp
            refine xcallr (clone_specv g.o9 g.c9 g.now (by omega)) ?_
            rintro _ _ ⟨o1, c1, rfl, rfl⟩
            refine xshare o1 ?_
            refine xcallr (done_spec b10 b11 g.st g.ar (by omega) (by omega)) ?_
            rintro _ _ ⟨rfl, rfl⟩
            refine xcallr sp ?_
            rintro _ _ ⟨rfl, on', cn', ol', cl', ow', cw', ws', hk', rfl⟩
            refine brun rfl ?_
            exact ⟨{ g with on := on', cn := cn', ol := ol', cl := cl', ow := ow', cw := cw', ws := ws', lasts := g.now, st := g.st + 1, ar := if g.ar > 0 then g.ar - 1 else g.ar, o8 := o1, c8 := c1, o12 := none, c12 := 0, vs := [] }, ⟨⟨rfl, rfl, rfl, rfl, rfl, rfl, rfl, rfl, rfl, rfl, rfl, trivial⟩,
              (Ent.sof0 2 eW none 0 (Nat.zero_le _) _).trans ((Ent.allS_nil _).trans (Takes.ent (M := sof 4 eA oa cap l :: (dsk g.b on' cn' g.now ol' cl' g.now ow' cw' ws' (g.st + 1) (if g.ar > 0 then g.ar - 1 else g.ar) ++ [sof 1 eB o1 c1 g.now, vof 5 1 eB g.o9 g.c9 g.now, sof 2 eW none 0 [], allS [], pts b10 3 [.int .i64 (g.st + 1)], pts b11 3 [.int .i64 (if g.ar > 0 then g.ar - 1 else g.ar)]])))),
              ⟨hnow, hnow, hk', Nat.zero_le _, by show 0 ≤ g.st + 1 ∧ g.st + 1 ≤ ((i + 1 : Nat) : Int); omega, by show -1 ≤ (if g.ar > 0 then g.ar - 1 else g.ar) ∧ (if g.ar > 0 then g.ar - 1 else g.ar) ≤ 1000; split <;> omega, fun x m => by cases m⟩, rfl⟩⟩
          · have e : flS ⟨g.now, g.lasts, g.ws.map Wr.key, g.st, g.ar⟩ = (180, ⟨g.now, g.lasts, g.ws.map Wr.key, g.st, g.ar⟩) := if_pos h2
            rw [e] at sp
            refine xcallr sp ?_
            rintro _ _ ⟨rfl, on', cn', ol', cl', ow', cw', ws', hk', rfl⟩
            refine brun rfl ?_
            exact ⟨{ g with on := on', cn := cn', ol := ol', cl := cl', ow := ow', cw := cw', ws := ws' }, ⟨⟨rfl, rfl, rfl, rfl, rfl, rfl, rfl, rfl, rfl, rfl, rfl, trivial⟩, Takes.ent (M := sof 4 eA oa cap l :: (dsk g.b on' cn' g.now ol' cl' g.lasts ow' cw' ws' g.st g.ar ++ [sof 1 eB g.o8 g.c8 g.lasts, vof 5 1 eB g.o9 g.c9 g.now, sof 2 eW g.o12 g.c12 g.vs, allS (g.vs.map Wr.bs), pts b10 3 [.int .i64 g.st], pts b11 3 [.int .i64 g.ar]])),
                ⟨hnow, hlasts, hk'.trans hkeys, by show g.vs.length ≤ i + 1; omega, by show 0 ≤ g.st ∧ g.st ≤ ((i + 1 : Nat) : Int); omega, har, hfit⟩, rfl⟩⟩
        refine brq (fun h5 => ?_) (fun h5 => ?_)
        · refine xidxa 4 1 rfl (by omega) ?_
          refine xld rfl rfl ?_
          refine arj (m := ((x3.toNat % 12 : Nat) : Int)) (tmodu _ _) (by omega) ?_
          refine ari (by omega) ?_
          refine xmax ?_
          refine xst rfl rfl rfl ?_
          refine xcallr (arm_spec g.b g.on g.cn g.now (.slice g.ol g.lasts.length g.cl) (.slice g.ow g.ws.length g.cw) (.int .i64 g.st) g.ar (((x3.toNat % 12 : Nat) : Int) - 2) (by omega)) ?_
          rintro _ _ ⟨rfl, rfl⟩
          refine brun rfl ?_
          exact ⟨{ g with ar := max (((x3.toNat % 12 : Nat) : Int) - 2) (-1) }, ⟨⟨rfl, rfl, rfl, rfl, rfl, rfl, rfl, rfl, rfl, rfl, rfl, trivial⟩, Takes.ent (M := sof 4 eA oa cap l :: (dsk g.b g.on g.cn g.now g.ol g.cl g.lasts g.ow g.cw g.ws g.st (max (((x3.toNat % 12 : Nat) : Int) - 2) (-1)) ++ [sof 1 eB g.o8 g.c8 g.lasts, vof 5 1 eB g.o9 g.c9 g.now, sof 2 eW g.o12 g.c12 g.vs, allS (g.vs.map Wr.bs), pts b10 3 [.int .i64 g.st], pts b11 3 [.int .i64 (max (((x3.toNat % 12 : Nat) : Int) - 2) (-1))]])),
            ⟨hnow, hlasts, hkeys, by show g.vs.length ≤ i + 1; omega, by show 0 ≤ g.st ∧ g.st ≤ ((i + 1 : Nat) : Int); omega, by show -1 ≤ max (((x3.toNat % 12 : Nat) : Int) - 2) (-1) ∧ max (((x3.toNat % 12 : Nat) : Int) - 2) (-1) ≤ 1000; omega, hfit⟩, rfl⟩⟩
        refine xdraw [pts b14 68 [.int .u8 x0.toNat, .int .u8 x1.toNat, .int .u8 x2.toNat, .int .u8 x3.toNat]] (.op 0 1 <| .op 1 1 <| .op 2 2 <| .op 6 2 <| .op 3 1 <| .op 4 1 <| .op 5 2 <| .op 7 2 <| .done) [] (by decide +kernel) Takes.ent ?_
        refine hidxa 4 1 rfl (by omega) ?_
        refine hld rfl rfl ?_
        refine ari (by omega) ?_
        refine hidxa 4 1 rfl (by omega) ?_
        refine hld rfl rfl ?_
        refine ari (by omega) ?_
        refine xidxa 4 1 rfl (by omega) ?_
        refine xld rfl rfl ?_
        refine xjoin (ι := Int × Int) (fun p => [(5, .v (.int .i64 n)), (6, .v (.pointer (some ⟨g.b, 0, none⟩))), (8, .v (.slice g.o8 g.lasts.length g.c8)), (9, .v (.slice g.o9 g.now.length g.c9)), (10, .v (.pointer (some ⟨b10, 0, none⟩))), (11, .v (.pointer (some ⟨b11, 0, none⟩))), (12, .v (.slice g.o12 g.vs.length g.c12)), (15, .v (.int .i64 a)), (57, .v (.slice oa l.length cap)), (58, .v (.int .i64 l.length)), (59, .v (.int .i64 i)), (14, .v (.pointer (some ⟨b14, 0, none⟩))), (23, .v (.int .i64 p.1)), (24, .v (.int .i64 p.2))]) (fun _ => sof 4 eA oa cap l :: pts b14 68 [.int .u8 x0.toNat, .int .u8 x1.toNat, .int .u8 x2.toNat, .int .u8 x3.toNat] :: g.M b10 b11) (fun p => (-200 ≤ p.1 ∧ p.1 ≤ 255) ∧ -200 ≤ p.2 ∧ p.2 ≤ 255) (fun _ => rfl) ?_ ?_
        · refine brq (fun h6 => ?_) (fun h6 => ?_)
          · refine ari (by omega) ?_
            refine ari (by omega) ?_
            exact ⟨(_, _), ⟨⟨rfl, rfl, rfl, rfl, rfl, rfl, rfl, rfl, rfl, rfl, rfl, rfl, rfl, rfl, trivial⟩, Takes.ent (M := sof 4 eA oa cap l :: pts b14 68 [.int .u8 x0.toNat, .int .u8 x1.toNat, .int .u8 x2.toNat, .int .u8 x3.toNat] :: g.M b10 b11), by simp only; omega, rfl⟩⟩
          · exact ⟨((x1.toNat : Int), (x2.toNat : Int)), ⟨⟨rfl, rfl, rfl, rfl, rfl, rfl, rfl, rfl, rfl, rfl, rfl, rfl, rfl, rfl, trivial⟩, Takes.ent (M := sof 4 eA oa cap l :: pts b14 68 [.int .u8 x0.toNat, .int .u8 x1.toNat, .int .u8 x2.toNat, .int .u8 x3.toNat] :: g.M b10 b11), ⟨⟨by show -200 ≤ (x1.toNat : Int); omega, by show (x1.toNat : Int) ≤ 255; omega⟩, by show -200 ≤ (x2.toNat : Int); omega, by show (x2.toNat : Int) ≤ 255; omega⟩, rfl⟩⟩
        rintro ⟨keep, torn⟩ ⟨hkp, htn⟩
        refine xcallr (clone_spec g.o8 g.c8 g.lasts (by omega)) ?_
        rintro _ _ ⟨o26, c26, rfl, rfl⟩
        refine ari (by omega) ?_
        refine xcallr (amg2_spec keep g.vs.length _ rfl (by omega)) ?_
        rintro _ _ ⟨rfl, rfl⟩
        have hkf : ∀ x ∈ g.vs.map Wr.key, x.1 + x.2.length ≤ g.lasts.length := by
          intro x m
          obtain ⟨y, hy, rfl⟩ := List.mem_map.1 m
          have := hfit y hy
          rw [hlasts]; exact this
        have hcl := fun j => crL_length (k := amg keep g.vs.length) (torn := torn) hkf j
        refine xcut (ι := Unit) 3 (fun _ => [(5, .v (.int .i64 n)), (6, .v (.pointer (some ⟨g.b, 0, none⟩))), (8, .v (.slice g.o8 g.lasts.length g.c8)), (9, .v (.slice g.o9 g.now.length g.c9)), (10, .v (.pointer (some ⟨b10, 0, none⟩))), (11, .v (.pointer (some ⟨b11, 0, none⟩))), (12, .v (.slice g.o12 g.vs.length g.c12)), (15, .v (.int .i64 a)), (57, .v (.slice oa l.length cap)), (58, .v (.int .i64 l.length)), (59, .v (.int .i64 i)), (14, .v (.pointer (some ⟨b14, 0, none⟩))), (23, .v (.int .i64 keep)), (24, .v (.int .i64 torn)), (26, .v (.slice o26 g.lasts.length c26))])
          (fun _ => vof 5 1 eB o26 c26 (crL (g.vs.map Wr.key) (amg keep g.vs.length) torn g.lasts (min (amg keep g.vs.length + 1) g.vs.length)) :: sof 4 eA oa cap l :: pts b14 68 [.int .u8 x0.toNat, .int .u8 x1.toNat, .int .u8 x2.toNat, .int .u8 x3.toNat] :: g.M b10 b11) (fun _ => True) (fun _ => rfl) ?_ ?_
        · refine xloop (ι := Nat × List UInt8) (fun p => [(5, .v (.int .i64 n)), (6, .v (.pointer (some ⟨g.b, 0, none⟩))), (8, .v (.slice g.o8 g.lasts.length g.c8)), (9, .v (.slice g.o9 g.now.length g.c9)), (10, .v (.pointer (some ⟨b10, 0, none⟩))), (11, .v (.pointer (some ⟨b11, 0, none⟩))), (12, .v (.slice g.o12 g.vs.length g.c12)), (15, .v (.int .i64 a)), (57, .v (.slice oa l.length cap)), (58, .v (.int .i64 l.length)), (59, .v (.int .i64 i)), (14, .v (.pointer (some ⟨b14, 0, none⟩))), (23, .v (.int .i64 keep)), (24, .v (.int .i64 torn)), (25, .v (.func (.func 97) #[] #[])), (26, .v (.slice o26 g.lasts.length c26)), (27, .v (.int .i64 (amg keep g.vs.length))), (103, .v (.slice g.o12 g.vs.length g.c12)), (104, .v (.int .i64 g.vs.length)), (105, .v (.int .i64 p.1))])
            (fun p => vof 5 1 eB o26 c26 (p.2) :: sof 4 eA oa cap l :: pts b14 68 [.int .u8 x0.toNat, .int .u8 x1.toNat, .int .u8 x2.toNat, .int .u8 x3.toNat] :: g.M b10 b11) (fun p => p.1 ≤ g.vs.length ∧ p.2 = crL (g.vs.map Wr.key) (amg keep g.vs.length) torn g.lasts (min (amg keep g.vs.length + 1) p.1)) (fun p => g.vs.length - p.1) (0, g.lasts) ⟨⟨rfl, rfl, rfl, rfl, rfl, rfl, rfl, rfl, rfl, rfl, rfl, rfl, rfl, rfl, rfl, rfl, rfl, rfl, rfl, rfl, trivial⟩, Takes.ent (M := vof 5 1 eB o26 c26 (g.lasts) :: sof 4 eA oa cap l :: pts b14 68 [.int .u8 x0.toNat, .int .u8 x1.toNat, .int .u8 x2.toNat, .int .u8 x3.toNat] :: g.M b10 b11), ⟨Nat.zero_le _, by rw [Nat.min_zero]; rfl⟩, rfl⟩ (fun _ => rfl) ?_
          rintro ⟨j, left⟩ ⟨hj, hleft⟩
          simp only at hj hleft
          refine brd (fun hjl => ?_) (fun hjl => ?_)
          · have hjl' : j < g.vs.length := by omega
            obtain ⟨y, hy⟩ : ∃ y, g.vs[j]? = some y := ⟨g.vs[j], List.getElem?_eq_getElem hjl'⟩
            have hyf := hfit y (List.mem_of_getElem? hy)
            have hps : (g.vs.map Wr.bs)[j]? = some y.bs := by rw [List.getElem?_map, hy]; rfl
            have hks : (g.vs.map Wr.key)[j]? = some y.key := by rw [List.getElem?_map, hy]; rfl
            have hll : left.length = g.lasts.length := by rw [hleft]; exact hcl _
            have hsu := crL_succ (k := amg keep g.vs.length) (torn := torn) (lasts := g.lasts) hks
            have hal := amg_le torn y.bs.xs.length
            refine xidx rfl (Nat.le_refl _) (by omega) ?_
            refine xldes rfl rfl (by assumption) ?_
            refine xnew fun b29 => ?_
            refine xstq [.int .i64 y.at_, .slice y.bs.oa y.bs.xs.length y.bs.cap] rfl rfl rfl rfl ?_
            refine brd (fun hjk => ?_) (fun hjk => ?_)
            · refine cgetS (g.vs.map Wr.bs) hps ?_
              refine cfact o26 ?_
              refine xdraw [pts b29 195 [.int .i64 y.at_, .slice y.bs.oa y.bs.xs.length y.bs.cap], fact (left.length ≤ c26)] (.op 0 2 <| .op 1 2 <| .op 4 2 <| .op 2 1 <| .op 3 1 <| .op 5 1 <| .op 6 0 <| .done) [6] (by decide +kernel) Takes.ent ?_
              refine hld rfl rfl ?_
              refine hslf (k := 1) left.length rfl (l := y.at_) (.is rfl) (h := g.lasts.length) .no (by omega) (by omega) ?_
              refine hld rfl rfl ?_
              refine xcopyv (over left y.at_ y.bs.xs) (by rw [List.take_of_length_le (by omega)]) rfl rfl (by show y.at_ + (g.lasts.length - y.at_) ≤ left.length; omega) ?_
              refine held ?_
              refine ari (by omega) ?_
              exact ⟨(j + 1, over left y.at_ y.bs.xs), ⟨⟨rfl, rfl, rfl, rfl, rfl, rfl, rfl, rfl, rfl, rfl, rfl, rfl, rfl, rfl, rfl, rfl, rfl, rfl, rfl, rfl, trivial⟩, Takes.ent (M := vof 5 1 eB o26 c26 (over left y.at_ y.bs.xs) :: sof 4 eA oa cap l :: pts b14 68 [.int .u8 x0.toNat, .int .u8 x1.toNat, .int .u8 x2.toNat, .int .u8 x3.toNat] :: g.M b10 b11), ⟨hjl', by
                show _ = crL (g.vs.map Wr.key) (amg keep g.vs.length) torn g.lasts (min (amg keep g.vs.length + 1) (j + 1))
                rw [Nat.min_eq_right (by omega), hsu, hleft, Nat.min_eq_right (by omega)]
                have : keptN (amg keep g.vs.length) torn j y.key.2.length = y.key.2.length := if_neg (by omega)
                rw [this, List.take_length]
                rfl⟩, rfl⟩, by show g.vs.length - (j + 1) < g.vs.length - j; omega⟩
            refine brq (fun hjk2 => ?_) (fun hjk2 => ?_)
            · refine cgetS (g.vs.map Wr.bs) hps ?_
              refine cfact o26 ?_
              refine xdraw [pts b29 195 [.int .i64 y.at_, .slice y.bs.oa y.bs.xs.length y.bs.cap], fact (left.length ≤ c26)] (.op 0 2 <| .op 1 2 <| .op 4 2 <| .op 6 2 <| .op 7 2 <| .op 8 2 <| .op 2 1 <| .op 3 1 <| .op 5 1 <| .op 9 1 <| .op 10 2 <| .op 11 2 <| .op 12 0 <| .op 13 0 <| .op 14 0 <| .done) [12, 13, 14] (by decide +kernel) Takes.ent ?_
              refine hld rfl rfl ?_
              refine hslf (k := 1) left.length rfl (l := y.at_) (.is rfl) (h := g.lasts.length) .no (by omega) (by omega) ?_
              refine hld rfl rfl ?_
              refine hld rfl rfl ?_
              refine ari (by omega) ?_
              refine xcallr (amg2_spec torn y.bs.xs.length _ rfl (by omega)) ?_
              rintro _ _ ⟨rfl, rfl⟩
              refine held ?_
              refine xslc (k := 1) rfl (l := 0) .no (h := amg torn y.bs.xs.length) (.is rfl) rfl (Nat.zero_le _) hal fun o5 c5 => ?_
              rw [List.drop_zero]
              refine held ?_
              refine xcopyv (over left y.at_ (y.bs.xs.take (amg torn y.bs.xs.length))) (by rw [List.take_of_length_le (l := y.bs.xs.take _) (by rw [List.length_take]; omega)]) rfl rfl (by show y.at_ + (g.lasts.length - y.at_) ≤ left.length; omega) ?_
              refine held ?_
              refine ari (by omega) ?_
              exact ⟨(j + 1, over left y.at_ (y.bs.xs.take (amg torn y.bs.xs.length))), ⟨⟨rfl, rfl, rfl, rfl, rfl, rfl, rfl, rfl, rfl, rfl, rfl, rfl, rfl, rfl, rfl, rfl, rfl, rfl, rfl, rfl, trivial⟩, Takes.ent (M := vof 5 1 eB o26 c26 (over left y.at_ (y.bs.xs.take (amg torn y.bs.xs.length))) :: sof 4 eA oa cap l :: pts b14 68 [.int .u8 x0.toNat, .int .u8 x1.toNat, .int .u8 x2.toNat, .int .u8 x3.toNat] :: g.M b10 b11), ⟨hjl', by
                show _ = crL (g.vs.map Wr.key) (amg keep g.vs.length) torn g.lasts (min (amg keep g.vs.length + 1) (j + 1))
                rw [Nat.min_eq_right (by omega), hsu, hleft, Nat.min_eq_right (by omega)]
                have : keptN (amg keep g.vs.length) torn j y.key.2.length = amg torn y.key.2.length := if_pos (by omega)
                rw [this]
                rfl⟩, rfl⟩, by show g.vs.length - (j + 1) < g.vs.length - j; omega⟩
            · refine ari (by omega) ?_
              exact ⟨(j + 1, left), ⟨⟨rfl, rfl, rfl, rfl, rfl, rfl, rfl, rfl, rfl, rfl, rfl, rfl, rfl, rfl, rfl, rfl, rfl, rfl, rfl, rfl, trivial⟩, Takes.ent (M := vof 5 1 eB o26 c26 (left) :: sof 4 eA oa cap l :: pts b14 68 [.int .u8 x0.toNat, .int .u8 x1.toNat, .int .u8 x2.toNat, .int .u8 x3.toNat] :: g.M b10 b11), ⟨hjl', by
                show _ = crL (g.vs.map Wr.key) (amg keep g.vs.length) torn g.lasts (min (amg keep g.vs.length + 1) (j + 1))
                rw [hleft, Nat.min_eq_left (by omega), Nat.min_eq_left (by omega)]⟩, rfl⟩, by show g.vs.length - (j + 1) < g.vs.length - j; omega⟩
          · obtain rfl : j = g.vs.length := by omega
            subst hleft
            exact ⟨rfl, (), ⟨⟨rfl, rfl, rfl, rfl, rfl, rfl, rfl, rfl, rfl, rfl, rfl, rfl, rfl, rfl, rfl, trivial⟩, Takes.ent (M := vof 5 1 eB o26 c26 (crL (g.vs.map Wr.key) (amg keep g.vs.length) torn g.lasts (min (amg keep g.vs.length + 1) g.vs.length)) :: sof 4 eA oa cap l :: pts b14 68 [.int .u8 x0.toNat, .int .u8 x1.toNat, .int .u8 x2.toNat, .int .u8 x3.toNat] :: g.M b10 b11), trivial, rfl⟩⟩
        · rintro _ -
          have hwl : g.ws.length = g.vs.length := by rw [← List.length_map (f := Wr.key), hkeys, List.length_map]
          have sp := crash_spec g.b keep torn g.on g.cn g.now g.ol g.cl g.lasts g.ow g.cw g.ws g.st g.ar (by omega) (by omega) (by omega) (by omega) (fun x m => by
            have : x.key ∈ g.vs.map Wr.key := by rw [← hkeys]; exact List.mem_map_of_mem m
            exact hkf _ this)
          have ecr : crS ⟨g.now, g.lasts, g.ws.map Wr.key, g.st, g.ar⟩ keep torn = crL (g.vs.map Wr.key) (amg keep g.vs.length) torn g.lasts (min (amg keep g.vs.length + 1) g.vs.length) := by unfold crS; simp only [hkeys, List.length_map]
          rw [ecr] at sp
          have hlen2 := hcl (min (amg keep g.vs.length + 1) g.vs.length)
          generalize crL (g.vs.map Wr.key) (amg keep g.vs.length) torn g.lasts (min (amg keep g.vs.length + 1) g.vs.length) = left at sp hlen2 ⊢
          refine xbld rfl rfl rfl ?_
          refine xcallr sp ?_
          rintro _ _ ⟨b2, N, rfl, ⟨on2, cn2, ol2, cl2, ow2, cw2, ws2, hk2, rfl⟩, rfl⟩
          have hw2 : ws2.length = 0 := by rw [← List.length_map (f := Wr.key), hk2]; rfl
          rw [List.append_assoc]
          refine brun rfl ?_
          refine xcallr (lasts_spec b2 left.length on2 cn2 (.slice ow2 ws2.length cw2) (.int .i64 0) (.int .i64 (-1)) ol2 cl2 left (by omega) (by omega)) ?_
          rintro _ _ ⟨ox, cx, rfl, rfl⟩
          refine xshare ox ?_
          refine xcallr (equal_specv2 ox o26 cx c26 left.length g.lasts.length left left rfl hlen2.symm) ?_
          rintro _ _ ⟨rfl, rfl⟩
          refine brf (by simp) ?_
          refine xcallr (waits_spec b2 left.length on2 cn2 (.slice ol2 left.length cl2) (.int .i64 0) (.int .i64 (-1)) ow2 cw2 ws2.length (by omega)) ?_
          rintro _ _ ⟨rfl, rfl⟩
          refine brun (by omega) ?_
          refine xcallr (steps_spec b2 left.length on2 cn2 (.slice ol2 left.length cl2) (.slice ow2 ws2.length cw2) (.int .i64 (-1)) 0 (by omega)) ?_
          rintro _ _ ⟨rfl, rfl⟩
          refine brun rfl ?_
          refine xcallr (size_spec b2 left.length on2 cn2 (.slice ol2 left.length cl2) (.slice ow2 ws2.length cw2) (.int .i64 0) (.int .i64 (-1)) (by omega)) ?_
          rintro _ _ ⟨rfl, rfl⟩
          refine brun (by omega) ?_
          refine xidxa 4 1 rfl (by omega) ?_
          refine xld rfl rfl ?_
          refine brq (fun h7 => ?_) (fun h7 => ?_)
          · refine xcallr (clone_specv2 o26 c26 g.lasts.length left hlen2.symm (by omega)) ?_
            rintro _ _ ⟨o9', c9', rfl, rfl⟩
            refine xshare o26 ?_
            refine xst rfl rfl rfl ?_
            refine xst rfl rfl rfl ?_
            obtain rfl : ws2 = [] := List.length_eq_zero_iff.1 hw2
            exact ⟨{ b := b2, on := on2, cn := cn2, ol := ol2, cl := cl2, ow := ow2, cw := cw2, ws := [], o8 := o26, c8 := c26, o9 := o9', c9 := c9', o12 := none, c12 := 0, vs := [], now := left, lasts := left, st := 0, ar := -1 }, ⟨⟨rfl, rfl, by rw [← hlen2]; rfl, by rw [← hlen2]; rfl, rfl, rfl, rfl, rfl, rfl, rfl, rfl, trivial⟩,
              (Ent.sof0 2 eW none 0 (Nat.zero_le _) _).trans (Takes.ent (M := sof 4 eA oa cap l :: (dsk b2 on2 cn2 left ol2 cl2 left ow2 cw2 [] 0 (-1) ++ [sof 1 eB o26 c26 left, vof 5 1 eB o9' c9' left, sof 2 eW none 0 [], allS (([] : List Wr).map Wr.bs), pts b10 3 [.int .i64 0], pts b11 3 [.int .i64 (-1)]]))),
              ⟨by show left.length = n; omega, by show left.length = n; omega, rfl, Nat.zero_le _, by show (0 : Int) ≤ 0 ∧ (0 : Int) ≤ ((i + 1 : Nat) : Int); omega, by show (-1 : Int) ≤ -1 ∧ (-1 : Int) ≤ 1000; omega, fun x m => by cases m⟩, rfl⟩⟩
          · exact ⟨g, ⟨⟨rfl, rfl, rfl, rfl, rfl, rfl, rfl, rfl, rfl, rfl, rfl, trivial⟩, ent2 (A := sof 4 eA oa cap l :: dsk g.b g.on g.cn g.now g.ol g.cl g.lasts g.ow g.cw g.ws g.st g.ar) (B := [sof 1 eB g.o8 g.c8 g.lasts, vof 5 1 eB g.o9 g.c9 g.now, sof 2 eW g.o12 g.c12 g.vs, allS (g.vs.map Wr.bs), pts b10 3 [.int .i64 g.st], pts b11 3 [.int .i64 g.ar]]), ⟨hnow, hlasts, hkeys, by omega, by omega, har, hfit⟩, rfl⟩⟩
    · clear hnow hlasts hkeys hlen hst har hfit ht
      rintro g ⟨hnow, hlasts, hkeys, hlen, hst, har, hfit⟩
      subst hnow
      have hwl : g.ws.length = g.vs.length := by rw [← List.length_map (f := Wr.key), hkeys, List.length_map]
      refine xcallr (read_spec g.b g.on g.cn g.now (.slice g.ol g.lasts.length g.cl) (.slice g.ow g.ws.length g.cw) (.int .i64 g.st) (.int .i64 g.ar) (by omega) (by omega)) ?_
      rintro _ _ ⟨o1, c1, rfl, rfl⟩
      refine ari (by omega) ?_
      have sp1 := reads_spec g.b g.now.length g.on g.cn (.slice g.ol g.lasts.length g.cl) (.slice g.ow g.ws.length g.cw) (.int .i64 g.st) (.int .i64 g.ar) 0 ((g.now.length : Int) + 1) (by omega) (by omega) (by omega) (by omega) (by omega)
      rw [if_neg (by omega)] at sp1
      refine xcallr sp1 ?_
      rintro _ _ ⟨rfl, rfl⟩
      have sp2 := reads_spec g.b g.now.length g.on g.cn (.slice g.ol g.lasts.length g.cl) (.slice g.ow g.ws.length g.cw) (.int .i64 g.st) (.int .i64 g.ar) a (-1) (by omega) (by omega) (by omega) (by omega) (by omega)
      rw [if_pos (by omega)] at sp2
      refine xcallr sp2 ?_
      rintro _ _ ⟨rfl, rfl⟩
      refine cshare o1 ?_
      refine xdraw [pts b10 3 [.int .i64 g.st]] (.op 0 2 <| .op 1 2 <| .op 2 2 <| .op 3 2 <| .op 4 2 <| .op 5 2 <| .op 6 2 <| .op 7 2 <| .op 8 2 <| .op 9 2 <| .op 10 2 <| .op 11 2 <| .op 12 2 <| .op 13 0 <| .op 14 2 <| .op 15 2 <| .op 16 2 <| .op 17 2 <| .op 19 2 <| .op 18 0 <| .op 20 0 <| .op 21 2 <| .op 22 2 <| .op 23 2 <| .op 24 2 <| .op 26 2 <| .op 27 2 <| .op 25 0 <| .op 28 2 <| .op 29 2 <| .op 30 2 <| .op 31 2 <| .op 33 1 <| .op 32 0 <| .op 34 2 <| .op 35 2 <| .done) [13, 18, 20, 25, 32] (by decide +kernel) Takes.ent ?_
      refine brun rfl ?_
      refine brun rfl ?_
      refine brun rfl ?_
      refine xcallr (equal_specv2 o1 g.o9 c1 g.c9 g.now.length g.now.length g.now g.now rfl rfl) ?_
      rintro _ _ ⟨rfl, rfl⟩
      refine held ?_
      refine brf (by simp) ?_
      refine xcallr (lasts_spec g.b g.now.length g.on g.cn (.slice g.ow g.ws.length g.cw) (.int .i64 g.st) (.int .i64 g.ar) g.ol g.cl g.lasts (by omega) (by omega)) ?_
      rintro _ _ ⟨o2, c2, rfl, rfl⟩
      refine held ?_
      refine xshare o2 ?_
      refine xcallr (equal_spec o2 g.o8 c2 g.c8 g.lasts g.lasts) ?_
      rintro _ _ ⟨rfl, rfl⟩
      refine held ?_
      refine brf (by simp) ?_
      refine xcallr (waits_spec g.b g.now.length g.on g.cn (.slice g.ol g.lasts.length g.cl) (.int .i64 g.st) (.int .i64 g.ar) g.ow g.cw g.ws.length (by omega)) ?_
      rintro _ _ ⟨rfl, rfl⟩
      refine held ?_
      refine brun (by omega) ?_
      refine hld rfl rfl ?_
      refine xcallr (steps_spec g.b g.now.length g.on g.cn (.slice g.ol g.lasts.length g.cl) (.slice g.ow g.ws.length g.cw) (.int .i64 g.ar) g.st (by omega)) ?_
      rintro _ _ ⟨rfl, rfl⟩
      refine held ?_
      refine brun rfl ?_
      refine ari (by omega) ?_
      exact ⟨(i + 1, g), ⟨⟨rfl, rfl, rfl, rfl, rfl, rfl, rfl, rfl, rfl, rfl, trivial⟩, Takes.ent (M := sof 4 eA oa cap l :: (dsk g.b g.on g.cn g.now g.ol g.cl g.lasts g.ow g.cw g.ws g.st g.ar ++ [sof 1 eB g.o8 g.c8 g.lasts, vof 5 1 eB g.o9 g.c9 g.now, sof 2 eW g.o12 g.c12 g.vs, allS (g.vs.map Wr.bs), pts b10 3 [.int .i64 g.st], pts b11 3 [.int .i64 g.ar]])), ⟨hlt', ⟨rfl, hlasts, hkeys, hlen, hst, har, hfit⟩⟩, rfl⟩, by show l.length - (i + 1) < l.length - i; omega⟩
  · exact xret (M := []) ⟨rfl, rfl⟩
end Go.X
