/- TopWired. -/
import Derived.Test.YtbgjlghhcclooaaPW
import Derived.Test.YtbgjlghhcclooaaXCnv
namespace Go.X
open Go Go.Proofs

structure Pc where
  k : UInt8
  n : Int
  bs : BS
def eP (p : Pc) : List Value := [.int .u8 p.k.toNat, .int .i64 p.n, .slice p.bs.oa p.bs.xs.length p.bs.cap]
theorem fineP (p : Pc) : fine 3 (eP p) := ⟨rfl, rfl⟩
abbrev Key := UInt8 × Int × List UInt8
def Pc.key (p : Pc) : Key := (p.k, p.n, p.bs.xs)
def trK (q : Key) : Key := (q.1, q.2.1, q.2.2.take (min q.2.2.length 200))
def pcK (q : Key) : List UInt8 := pc q.1 q.2.1 q.2.2
def lits (hb : Nat) : List Pc := [⟨0, 300, ⟨none, 0, []⟩⟩, ⟨1, -8, ⟨none, 0, []⟩⟩, ⟨3, 0, ⟨some ⟨hb, 0, none⟩, 2, [104, 105]⟩⟩, ⟨4, 1, ⟨none, 0, []⟩⟩]

theorem Ent.allS_sub {ps qs : List BS} (h : ∀ q ∈ qs, q ∈ ps ∨ q = ⟨none, 0, []⟩) (L : List Assn) : Ent (allS ps :: L) (allS qs :: L) :=
  Ent.head (A := allS ps) (B := allS qs) (fun F k g => ⟨g.1, fun q m => by
    rcases h q m with h | rfl
    · exact g.2 q h
    · exact ⟨rfl, fun x m => (by cases m), Nat.le_refl _, Nat.zero_le _, .inl rfl⟩⟩) L
theorem Ent.lits {hb h : Nat} {ps : List Pc} (L : List Assn) : Ent (sof 1 eB (some ⟨hb, 0, none⟩) 2 [104, 105] :: allS (ps.map Pc.bs) :: L) (allS ((lits hb ++ ps.take h).map Pc.bs) :: L) :=
  (Ent.allS_cons (p := ⟨some ⟨hb, 0, none⟩, 2, [104, 105]⟩) L).trans (Ent.allS_sub (fun q m => by
    rw [List.map_append] at m
    rcases List.mem_append.1 m with m | m
    · simp only [X.lits, List.map_cons, List.map_nil, List.mem_cons, List.not_mem_nil, or_false] at m
      rcases m with rfl | rfl | rfl | rfl
      · exact .inr rfl
      · exact .inr rfl
      · exact .inl (.head _)
      · exact .inr rfl
    · refine .inl (.tail _ ?_)
      obtain ⟨p, hp, e⟩ := List.mem_map.1 m
      exact List.mem_map.2 ⟨p, List.mem_of_mem_take hp, e⟩) L)
theorem xLits {P : Program} {x : Eff} {L L' : List Assn} {K : Ending → List Assn → Prop} (hb h : Nat) (ps : List Pc) [t : Takes [sof 1 eB (some ⟨hb, 0, none⟩) 2 [104, 105], allS (ps.map Pc.bs)] L L']
    (q : VC P x (allS ((lits hb ++ ps.take h).map Pc.bs) :: L') K) : VC P x L K := x_ent (t.out.trans (Ent.lits L')) q

theorem xallSet {P : Program} {x : Eff} {L L' : List Assn} {K : Ending → List Assn → Prop} (ps : List BS) (i : Nat) (oa : Option Addr) (cap : Nat) (xs : List UInt8) (qs : List BS) (hq : ps.set i ⟨oa, cap, xs⟩ = qs) [t : Takes [sof 1 eB oa cap xs, allS ps] L L']
    (q : VC P x (allS qs :: L') K) : VC P x L K := by
  subst hq
  exact x_ent (t.out.trans (Ent.allS_set i ⟨oa, cap, xs⟩ L')) q

theorem tdiv2 (n : Nat) : ((n : Int)).tdiv ((1 + 1 : Nat) : Int) = ((n / 2 : Nat) : Int) := by
  rw [Int.tdiv_eq_ediv_of_nonneg (by omega)]; omega

/-- The keys so far, cut. -/
def kys (K : List Key) (i : Nat) : List Key := (K.take i).map trK ++ K.drop i
def dueK (K : List Key) (i : Nat) : List UInt8 := ((K.take i).map trK).flatMap pcK
theorem kys_length (K : List Key) (i : Nat) : (kys K i).length = K.length := by simp [kys]; omega
theorem kys_get {K : List Key} {i : Nat} (h : i < K.length) : (kys K i)[i]? = some K[i] := by
  unfold kys
  have hl : ((K.take i).map trK).length = i := by simp; omega
  rw [List.getElem?_append_right (by omega), hl, Nat.sub_self, List.getElem?_drop]
  simp [h]
theorem kys_set {K : List Key} {i : Nat} (h : i < K.length) : (kys K i).set i (trK K[i]) = kys K (i + 1) := by
  unfold kys
  have hl : ((K.take i).map trK).length = i := by simp; omega
  rw [List.set_append_right _ _ (by omega), hl, Nat.sub_self, ← List.getElem_cons_drop h, List.set_cons_zero, take_succ_get (List.getElem?_eq_getElem h), List.map_append, List.append_assoc]
  rfl
theorem dueK_succ {K : List Key} {i : Nat} (h : i < K.length) : dueK K (i + 1) = dueK K i ++ pcK (trK K[i]) := by
  unfold dueK
  rw [take_succ_get (List.getElem?_eq_getElem h), List.map_append, List.flatMap_append]
  simp
def okK (q : Key) : Prop := -9223372036854775808 ≤ q.2.1 ∧ q.2.1 ≤ 9223372036854775807
theorem trK_len (q : Key) : (trK q).2.2.length ≤ 200 := by simp [trK]; omega
theorem dueK_len {K : List Key} (hK : ∀ q ∈ K, okK q) (i : Nat) : (dueK K i).length ≤ 211 * i := by
  induction i with
  | zero => simp [dueK]
  | succ i ih =>
    by_cases h : i < K.length
    · rw [dueK_succ h, List.length_append]
      have h1 := trK_len K[i]
      have h2 := pc_len (trK K[i]).1 (trK K[i]).2.1 (trK K[i]).2.2 (hK K[i] (List.getElem_mem h)) (by omega)
      unfold pcK
      omega
    · have : dueK K (i + 1) = dueK K i := by unfold dueK; rw [List.take_of_length_le (by omega), List.take_of_length_le (by omega)]
      rw [this]; omega

theorem equal_specv (oa ob : Option Addr) (ca cb : Nat) (xs ys : List UInt8) : FnSpec Try.prog 18 [.slice oa xs.length ca, .slice ob ys.length cb] [sof 1 eB oa ca xs, vof 5 1 eB ob cb ys] (Ret fun v L => v = .bool (decide (xs = ys)) ∧ L = [vof 5 1 eB ob cb ys]) := by
  refine .intro ttOK (fun _ _ => Try.call18 _ _) Try.func18 rfl rfl rfl rfl ?_
  refine xcnv_bs (xs := xs) rfl rfl rfl rfl rfl rfl rfl rfl ?_
  refine xcnv_bs (xs := ys) rfl rfl rfl rfl rfl rfl rfl rfl ?_
  refine xret (M := [vof 5 1 eB ob cb ys]) ⟨?_, rfl⟩
  have e : (xs == ys) = decide (xs = ys) := by rw [Bool.eq_iff_iff]; simp
  rw [strOf, strOf, ByteArray.toList_mk, ByteArray.toList_mk, e]
  rfl
theorem xremn {P : Program} {t : TypeId} {cx cy : Bool} {k : IntKind} {m n : Nat} {L : List Assn} {K : Ending → List Assn → Prop} (hn : 0 < n)
    (q : K (.returned (.int k ((m % n : Nat) : Int))) L) : VC P (.bin .rem t cx cy (.int k (m : Int)) (.int k (n : Int))) L K := by
  refine xrem (by omega) ?_
  have : ((m : Int)).tmod (n : Int) = ((m % n : Nat) : Int) := by rw [Int.tmod_eq_emod_of_nonneg (by omega)]; omega
  rw [this]
  exact q
theorem cparts {P : Program} {T : Tab} {n : Nat} {c : Code} {env : Env} {X : Exit → Env → List Assn → Prop} {L L' : List Assn} (b : Nat) {e : TypeId} {cs : List Value} (ps : List BS) [t : TakePts b L e cs L'] (h : ps.flatMap eS = cs) (hl : ps.length ≤ 2147483648)
    (q : CodeVC P T n c env (sof 1 eS (some ⟨b, 0, none⟩) ps.length ps :: L') X) : CodeVC P T n c env L X :=
  c_ent ((t.out.trans (Ent.own L' h (fun p _ => fineS p) (le_maxLen hl))).trans (Ent.share L')) q
theorem callNil {P : Program} {T : Tab} {n : Nat} {c : Code} {env : Env} {X : Exit → Env → List Assn → Prop} {L : List Assn} (q : CodeVC P T n c env (allS [] :: L) X) : CodeVC P T n c env L X := c_ent (Ent.allS_nil L) q
theorem callCons {P : Program} {T : Tab} {n : Nat} {c : Code} {env : Env} {X : Exit → Env → List Assn → Prop} {L L' : List Assn} (oa : Option Addr) (cap : Nat) (xs : List UInt8) (ps : List BS) [s : Take (allS ps) L L'] [t : HasSof oa L' UInt8 1 eB cap xs]
    (q : CodeVC P T n c env (allS (⟨oa, cap, xs⟩ :: ps) :: L') X) : CodeVC P T n c env L X :=
  c_ent (((s.out.trans (Ent.cons _ t.out)).trans (Ent.swap _ _ _)).trans (Ent.allS_cons (p := ⟨oa, cap, xs⟩) L')) q

/-- Where the j-th piece begins, and what is there. -/
def posK (Ks : List Key) (j : Nat) : Nat := ((Ks.take j).flatMap pcK).length
def rstK (Ks : List Key) (j : Nat) : List UInt8 := (Ks.drop j).flatMap pcK
theorem pos_step {Ks : List Key} {j : Nat} {q : Key} (h : Ks[j]? = some q) : posK Ks (j + 1) = posK Ks j + (pcK q).length := by
  unfold posK
  rw [take_succ_get h, List.flatMap_append, List.length_append]
  simp
theorem rst_step {Ks : List Key} {j : Nat} {q : Key} (h : Ks[j]? = some q) : rstK Ks j = pcK q ++ rstK Ks (j + 1) := by
  unfold rstK
  obtain ⟨hl, rfl⟩ := List.getElem?_eq_some_iff.1 h
  rw [← List.getElem_cons_drop hl, List.flatMap_cons]
theorem pos_rst (Ks : List Key) (j : Nat) : posK Ks j + (rstK Ks j).length = (Ks.flatMap pcK).length := by
  unfold posK rstK
  rw [← List.length_append, ← List.flatMap_append, List.take_append_drop]
theorem rst_fits {Ks : List Key} {j e : Nat} {q : Key} (h : Ks[j]? = some q) (he : posK Ks j + (pcK q).length ≤ e) : (rstK Ks j).take (e - posK Ks j) = pcK q ++ (rstK Ks (j + 1)).take (e - posK Ks (j + 1)) := by
  rw [rst_step h, List.take_append, List.take_of_length_le (by omega), pos_step h]
  congr 2
  omega
theorem rst_cut {Ks : List Key} {j e : Nat} {q : Key} (h : Ks[j]? = some q) (he : e < posK Ks j + (pcK q).length) (hj : posK Ks j ≤ e) : (rstK Ks j).take (e - posK Ks j) = (pcK q).take (e - posK Ks j) := by
  rw [rst_step h, List.take_append_of_le_length (by omega)]

theorem rdP_fits {Ks : List Key} {j e : Nat} {q : Key} (h : Ks[j]? = some q) (he : posK Ks j + (pcK q).length ≤ e) (hn : okK q) (hx : q.2.2.length ≤ 1000) :
    rdP q.1 q.2.1 q.2.2 ((rstK Ks j).take (e - posK Ks j)) = .ok (true, (rstK Ks (j + 1)).take (e - posK Ks (j + 1))) := by
  rw [rst_fits h he]
  exact rdP_all _ _ _ _ hn hx
theorem rdP_cut {Ks : List Key} {j e : Nat} {q : Key} (h : Ks[j]? = some q) (he : e < posK Ks j + (pcK q).length) (hj : posK Ks j ≤ e) (hn : okK q) (hx : q.2.2.length ≤ 1000) :
    rdP q.1 q.2.1 q.2.2 ((rstK Ks j).take (e - posK Ks j)) = .error 120 := by
  rw [rst_cut h he hj]
  exact rdP_short _ _ _ _ hn hx (by unfold pcK at he; omega)

theorem or14 {cut : Nat} (h : cut < 65536) : ior .u64 (cut : Int) 16384 = ((cut ||| 16384 : Nat) : Int) ∧ 16384 ≤ (cut ||| 16384) ∧ (cut ||| 16384) < 65536 := by
  have h1 : (cut ||| 16384) < 2 ^ 16 := Nat.or_lt_two_pow (by omega) (by decide)
  have h2 : 16384 ≤ (cut ||| 16384) := Nat.right_le_or
  refine ⟨?_, h2, h1⟩
  unfold ior
  have e : (BitVec.ofInt IntKind.u64.bits (cut : Int) ||| BitVec.ofInt IntKind.u64.bits 16384).toNat = (cut ||| 16384) := by
    show (BitVec.ofInt 64 (cut : Int) ||| BitVec.ofInt 64 ((16384 : Nat) : Int)).toNat = _
    have f : ∀ m : Nat, m < 65536 → (BitVec.ofInt 64 (m : Int)).toNat = m := fun m hm => by rw [BitVec.toNat_ofInt]; omega
    rw [BitVec.toNat_or, f cut h, f 16384 (by decide)]
  rw [e]
  exact wrapu64_in (by omega)
theorem num3 {m : Nat} (h0 : 16384 ≤ m) (h1 : m < 2097152) : num m = [UInt8.ofNat (m % 128 + 128), UInt8.ofNat (m / 128 % 128 + 128), UInt8.ofNat (m / 128 / 128)] := by
  rw [num_ge (by omega), num_ge (by omega), num_lt (by omega)]
theorem ior_comm8 (a b : Int) : ior .u8 a b = ior .u8 b a := by unfold ior; rw [BitVec.or_comm]
set_option maxHeartbeats 4000000 in
theorem wired_spec (ol : Option Addr) (cl : Nat) (ps : List Pc) (cut : Nat) (hcut : cut < 65536) (hn : ∀ p ∈ ps, -9223372036854775808 ≤ p.n ∧ p.n ≤ 9223372036854775807) :
    FnSpec Try.prog 3 [.slice ol ps.length cl, .int .u16 cut] [sof 3 eP ol cl ps, allS (ps.map Pc.bs)] (Ret fun v _ => v = .bool true) := by
  refine .intro ttOK (fun _ _ => Try.call3 _ _) Try.func3 rfl rfl rfl rfl ?_
  refine xbld rfl rfl rfl ?_
  refine xbld rfl rfl rfl ?_
  refine xrow (el := 5) (k := 1) rfl rfl rfl rfl fun hb => ?_
  refine xcnv_ss [104, 105] rfl rfl rfl rfl rfl rfl rfl rfl (Nat.le_of_ble_eq_true rfl) ?_
  refine xbld rfl rfl rfl ?_
  refine xbld rfl rfl rfl ?_
  refine xrow (el := 26) (k := 3) rfl rfl rfl rfl fun lb => ?_
  refine xmin ?_
  refine xslc rfl .no (h := min ps.length 30) (.is (by omega)) rfl (Nat.zero_le _) (by omega) fun o1 c1 => ?_
  rw [List.drop_zero]
  refine xown lb 3 eP (lits hb) rfl (fun y _ => fineP y) (le_maxLen (Nat.le_of_ble_eq_true rfl)) ?_
  refine xappq (lits hb ++ ps.take (min ps.length 30)) rfl rfl rfl rfl (by simp [lits]; omega) fun o2 c2 => ?_
  refine xLits hb (min ps.length 30) ps ?_
  generalize hz0 : lits hb ++ ps.take (min ps.length 30) = z0
  generalize hK0 : z0.map Pc.key = K
  have hKl : K.length = z0.length := by rw [← hK0, List.length_map]
  have hzl : z0.length = min ps.length 30 + 4 := by rw [← hz0]; simp [lits]
  have hKn : ∀ q ∈ K, okK q := by
    intro q m
    rw [← hK0, ← hz0, List.map_append] at m
    rcases List.mem_append.1 m with m | m
    · simp only [lits, List.map_cons, List.map_nil, List.mem_cons, List.not_mem_nil, or_false] at m
      rcases m with rfl | rfl | rfl | rfl <;> simp [okK, Pc.key]
    · obtain ⟨p, hp, rfl⟩ := List.mem_map.1 m
      exact hn p (List.mem_of_mem_take hp)
  refine xcallr wnew_spec ?_
  rintro _ _ ⟨bw, rfl, ow, cw, rfl⟩
  refine c_ent (Ent.vof0 5 1 eB _) ?_
  refine xcut (ι := List Pc × List UInt8 × Option Addr × Nat × Option Addr × Nat) 0
    (fun (zs, due, od, cd, ow, cw) => [(0, .v (.slice o2 z0.length c2)), (1, .v (.int .u16 cut)), (5, .v (.pointer (some ⟨bw, 0, none⟩))), (6, .v (.slice od due.length cd))])
    (fun (zs, due, od, cd, ow, cw) => [vof 26 3 eP o2 c2 zs, allS (zs.map Pc.bs), pts bw 155 [.slice ow due.length cw, .bool true], sof 1 eB ow cw due, vof 5 1 eB od cd due])
    (fun (zs, due, od, cd, ow, cw) => zs.length = z0.length ∧ zs.map Pc.key = K.map trK ∧ due = (K.map trK).flatMap pcK ∧ due.length ≤ 211 * z0.length) (fun _ => rfl) ?_ ?_
  · refine xloop (ι := Nat × List Pc × List UInt8 × Option Addr × Nat × Option Addr × Nat)
      (fun (i, zs, due, od, cd, ow, cw) => [(0, .v (.slice o2 z0.length c2)), (1, .v (.int .u16 cut)), (5, .v (.pointer (some ⟨bw, 0, none⟩))), (6, .v (.slice od due.length cd)), (44, .v (.int .i64 z0.length)), (45, .v (.int .i64 i))])
      (fun (i, zs, due, od, cd, ow, cw) => [vof 26 3 eP o2 c2 zs, allS (zs.map Pc.bs), pts bw 155 [.slice ow due.length cw, .bool true], sof 1 eB ow cw due, vof 5 1 eB od cd due])
      (fun (i, zs, due, od, cd, ow, cw) => i ≤ z0.length ∧ zs.map Pc.key = kys K i ∧ due = dueK K i) (fun (i, _) => z0.length - i) (0, z0, [], none, 0, ow, cw)
      ⟨⟨rfl, rfl, rfl, rfl, rfl, rfl, trivial⟩, (Takes.ent : Ent _ [vof 26 3 eP o2 c2 z0, allS (z0.map Pc.bs), pts bw 155 [.slice ow ([] : List UInt8).length cw, .bool true], sof 1 eB ow cw [], vof 5 1 eB none 0 []]), ⟨Nat.zero_le _, by simp [kys, hK0], rfl⟩, rfl⟩ (fun _ => rfl) ?_
    rintro ⟨i, zs, due, od, cd, ow, cw⟩ ⟨hi, hk, hdue⟩
    have hzs : zs.length = z0.length := by rw [← hKl, ← kys_length K i, ← hk, List.length_map]
    refine brd (fun h => ?_) (fun h => ?_)
    · subst hdue
      have hlt : i < z0.length := by omega
      have hltK : i < K.length := by omega
      have hp : zs[i]? = some zs[i] := List.getElem?_eq_getElem (by omega)
      generalize zs[i] = p at hp
      have hkey : p.key = K[i] := by
        have h1 := kys_get hltK
        rw [← hk, List.getElem?_map, hp] at h1
        simpa using h1
      have hpn : okK p.key := by rw [hkey]; exact hKn _ (List.getElem_mem hltK)
      have hdl := dueK_len hKn i
      have hdl1 := dueK_len hKn (i + 1)
      refine xidx rfl (by omega) (by omega) ?_
      refine cgetS (zs.map Pc.bs) (i := i) (p := p.bs) (by rw [List.getElem?_map, hp]; rfl) ?_
      refine xdrawl [(0, 2), (1, 2), (2, 2), (3, 2), (5, 2), (6, 2), (7, 2), (4, 1), (8, 1), (9, 2), (10, 2), (11, 1), (12, 2), (13, 2), (14, 0)] [] (by decide +kernel) ?_
      refine hldf (x := p) rfl hp rfl ?_
      refine hldf (x := p) rfl hp rfl ?_
      refine pmin ?_
      refine hslc rfl .no (h := min p.bs.xs.length 200) (.is (by omega)) rfl (Nat.zero_le _) (by omega) fun o3 c3 => ?_
      rw [List.drop_zero]
      generalize hxs : p.bs.xs.take (min p.bs.xs.length 200) = xs
      have hxl : xs.length ≤ 200 := by rw [← hxs]; simp; omega
      refine xallSet (zs.map Pc.bs) i o3 c3 xs ((zs.set i ⟨p.k, p.n, ⟨o3, c3, xs⟩⟩).map Pc.bs) (by rw [List.map_set]) ?_
      refine xste p ⟨p.k, p.n, ⟨o3, c3, xs⟩⟩ rfl rfl rfl hp rfl rfl (zs.set i ⟨p.k, p.n, ⟨o3, c3, xs⟩⟩) rfl ?_
      have hp' : (zs.set i ⟨p.k, p.n, ⟨o3, c3, xs⟩⟩)[i]? = some ⟨p.k, p.n, ⟨o3, c3, xs⟩⟩ := by rw [List.getElem?_set_self (by omega)]
      have hk' : (zs.set i ⟨p.k, p.n, ⟨o3, c3, xs⟩⟩).map Pc.key = kys K (i + 1) := by
        rw [List.map_set, hk, ← kys_set hltK, ← hkey, ← hxs]
        rfl
      have hdu : dueK K (i + 1) = dueK K i ++ pc p.k p.n xs := by
        rw [dueK_succ hltK, ← hkey, ← hxs]
        rfl
      generalize zs.set i ⟨p.k, p.n, ⟨o3, c3, xs⟩⟩ = zs' at hp' hk'
      have hzs' : zs'.length = z0.length := by rw [← hKl, ← kys_length K (i + 1), ← hk', List.length_map]
      refine xldf rfl hp' rfl ?_
      refine xjoin (ι := Option Addr × Nat)
        (fun (ow, cw) => [(0, .v (.slice o2 z0.length c2)), (1, .v (.int .u16 cut)), (5, .v (.pointer (some ⟨bw, 0, none⟩))), (6, .v (.slice od (dueK K i).length cd)), (8, .v (.pointer (some ((oget o2).add ((i : Int).toNat * 3))))), (9, .v (.int .i64 0)), (44, .v (.int .i64 z0.length)), (45, .v (.int .i64 i))])
        (fun (ow, cw) => [vof 26 3 eP o2 c2 zs', allS (zs'.map Pc.bs), sof 1 eB o3 c3 xs, pts bw 155 [.slice ow (dueK K (i + 1)).length cw, .bool true], sof 1 eB ow cw (dueK K (i + 1)), vof 5 1 eB od cd (dueK K i)])
        (fun _ => True) (fun _ => rfl) ?_ ?_
      · refine brk p.k 0 (fun k0 => ?_) (fun k0 => ?_)
        · have e : dueK K i ++ num (max p.n 0).toNat = dueK K (i + 1) := by rw [hdu, pc, if_pos k0]
          refine xldf rfl hp' rfl ?_
          refine xmax ?_
          refine xcallr (by rw [show max p.n 0 = (((max p.n 0).toNat : Nat) : Int) by omega]; exact wNumber_ok bw ow cw (dueK K i) (max p.n 0).toNat (by have := hpn.2; simp only [Pc.key] at this; omega) (by omega)) ?_
          rintro _ _ ⟨rfl, o4, c4, rfl⟩
          rw [e]
          exact ⟨(o4, c4), ⟨⟨rfl, rfl, rfl, rfl, rfl, rfl, rfl, rfl, trivial⟩, Takes.ent, trivial, rfl⟩⟩
        refine brk p.k 1 (fun k1 => ?_) (fun k1 => ?_)
        · have e : dueK K i ++ num (zz (p.n / 4)) = dueK K (i + 1) := by rw [hdu, pc, if_neg k0, if_pos k1]
          have hb := hpn
          simp only [okK, Pc.key] at hb
          refine xldf rfl hp' rfl ?_
          refine xcallr (wSigned_ok bw ow cw (dueK K i) (p.n / 4) (by omega) (by omega) (by omega)) ?_
          rintro _ _ ⟨rfl, o4, c4, rfl⟩
          rw [e]
          exact ⟨(o4, c4), ⟨⟨rfl, rfl, rfl, rfl, rfl, rfl, rfl, rfl, trivial⟩, Takes.ent, trivial, rfl⟩⟩
        refine brk p.k 2 (fun k2 => ?_) (fun k2 => ?_)
        · have e : dueK K i ++ (num xs.length ++ xs) = dueK K (i + 1) := by rw [hdu, pc, if_neg k0, if_neg k1, if_pos (.inl k2)]
          refine xldf rfl hp' rfl ?_
          refine xcallr (clone_spec o3 c3 xs (by omega)) ?_
          rintro _ _ ⟨o5, c5, rfl, rfl⟩
          refine xshare o5 ?_
          refine xcallr (wBytes_ok bw ow cw (dueK K i) o5 c5 xs (by omega) (by omega)) ?_
          rintro _ _ ⟨rfl, o4, c4, rfl⟩
          rw [e]
          exact ⟨(o4, c4), ⟨⟨rfl, rfl, rfl, rfl, rfl, rfl, rfl, rfl, trivial⟩, Takes.ent, trivial, rfl⟩⟩
        refine brk p.k 3 (fun k3 => ?_) (fun k3 => ?_)
        · have e : dueK K i ++ (num (strOf xs).data.toList.length ++ (strOf xs).data.toList) = dueK K (i + 1) := by rw [hdu, pc, if_neg k0, if_neg k1, if_pos (.inr k3)]; rfl
          refine xldf rfl hp' rfl ?_
          refine xcnv_bs (xs := xs) rfl rfl rfl rfl rfl rfl rfl rfl ?_
          refine xcallr (wText_ok bw ow cw (dueK K i) (strOf xs) (by omega) (by show xs.length ≤ _; omega)) ?_
          rintro _ _ ⟨rfl, o4, c4, rfl⟩
          rw [e]
          exact ⟨(o4, c4), ⟨⟨rfl, rfl, rfl, rfl, rfl, rfl, rfl, rfl, trivial⟩, Takes.ent, trivial, rfl⟩⟩
        refine brk p.k 4 (fun k4 => ?_) (fun k4 => ?_)
        · have e : dueK K i ++ [if (iand .i64 p.n 1 == 1) = true then 1 else 0] = dueK K (i + 1) := by
            have e4 : pc p.k p.n xs = [if p.n % 2 = 1 then 1 else 0] := (if_neg k0).trans ((if_neg k1).trans ((if_neg (by omega)).trans (if_pos k4)))
            rw [hdu, e4, iand1]; simp
          refine xldf rfl hp' rfl ?_
          refine xcallr (wTruth_ok bw ow cw (dueK K i) (iand .i64 p.n 1 == 1) (by omega)) ?_
          rintro _ _ ⟨rfl, o4, c4, rfl⟩
          rw [e]
          exact ⟨(o4, c4), ⟨⟨rfl, rfl, rfl, rfl, rfl, rfl, rfl, rfl, trivial⟩, Takes.ent, trivial, rfl⟩⟩
        · have e : dueK K i ++ xs = dueK K (i + 1) := by 
            have e5 : pc p.k p.n xs = xs := (if_neg k0).trans ((if_neg k1).trans ((if_neg (by omega)).trans (if_neg k4)))
            rw [hdu, e5]
          refine xdraw [vof 26 3 eP o2 c2 zs', sof 1 eB o3 c3 xs] [(0, 2), (1, 2), (2, 2), (3, 2), (5, 2), (6, 2), (7, 2), (12, 2), (13, 2), (14, 2), (16, 2), (17, 2), (18, 2), (4, 1), (8, 1), (9, 2), (10, 2), (11, 1), (15, 1), (19, 1), (20, 2), (21, 2), (22, 1), (23, 0), (24, 0), (25, 0)] [23, 24] (by decide +kernel) Takes.ent ?_
          refine hldf (x := ⟨p.k, p.n, ⟨o3, c3, xs⟩⟩) rfl hp' rfl ?_
          refine hldf (x := ⟨p.k, p.n, ⟨o3, c3, xs⟩⟩) rfl hp' rfl ?_
          refine arj (tdiv2 xs.length) (by omega) ?_
          refine hslc rfl .no (h := xs.length / 2) (.is rfl) rfl (Nat.zero_le _) (by omega) fun o4 c4 => ?_
          rw [List.drop_zero]
          refine hldf (x := ⟨p.k, p.n, ⟨o3, c3, xs⟩⟩) rfl hp' rfl ?_
          refine hldf (x := ⟨p.k, p.n, ⟨o3, c3, xs⟩⟩) rfl hp' rfl ?_
          refine arj (tdiv2 xs.length) (by omega) ?_
          refine hslc rfl (l := xs.length / 2) (.is rfl) (h := xs.length) .no rfl (by omega) (Nat.le_refl _) fun o5 c5 => ?_
          rw [List.take_length]
          refine xrow (el := 24) (k := 1) rfl rfl rfl rfl fun bb => ?_
          refine held ?_
          refine xparts bb [⟨o4, c4, xs.take (xs.length / 2)⟩, ⟨o5, c5, xs.drop (xs.length / 2)⟩] rfl (Nat.le_of_ble_eq_true rfl) ?_
          refine xallN ?_
          refine xallC o5 c5 (xs.drop (xs.length / 2)) [] ?_
          refine xallC o4 c4 (xs.take (xs.length / 2)) [⟨o5, c5, xs.drop (xs.length / 2)⟩] ?_
          refine xcallr (wRaw_ok bw ow cw (dueK K i) (some ⟨bb, 0, none⟩) 2 [⟨o4, c4, xs.take (xs.length / 2)⟩, ⟨o5, c5, xs.drop (xs.length / 2)⟩] (dueK K (i + 1)) (by rw [← e]; simp [catS]) (by omega) (by simp)) ?_
          rintro _ _ ⟨rfl, o6, c6, rfl⟩
          refine held ?_
          exact ⟨(o6, c6), ⟨⟨rfl, rfl, rfl, rfl, rfl, rfl, rfl, rfl, trivial⟩, Takes.ent, trivial, rfl⟩⟩
      · rintro ⟨ow, cw⟩ -
        refine xldes rfl rfl hp' ?_
        refine xcallr (piece_spec p.k p.n hpn o3 c3 xs (by omega)) ?_
        rintro _ _ ⟨o6, c6, rfl, rfl⟩
        refine xappq (dueK K (i + 1)) hdu.symm rfl rfl rfl (by omega) fun o7 c7 => ?_
        refine brun rfl ?_
        refine xcallr (wAll_ok bw ow cw (dueK K (i + 1)) (by omega)) ?_
        rintro _ _ ⟨o8, c8, rfl, rfl⟩
        refine xshare o8 ?_
        refine xcallr (equal_specv o8 o7 c8 c7 (dueK K (i + 1)) (dueK K (i + 1))) ?_
        rintro _ _ ⟨rfl, rfl⟩
        refine brf (by simp) ?_
        refine ari (by omega) ?_
        exact ⟨(i + 1, zs', dueK K (i + 1), o7, c7, ow, cw), ⟨⟨rfl, rfl, rfl, rfl, rfl, rfl, trivial⟩, Takes.ent, ⟨by omega, hk', rfl⟩, rfl⟩, by show z0.length - (i + 1) < z0.length - i; omega⟩
    · have hiN : i = z0.length := by omega
      rw [hiN] at hk hdue
      have hKs : kys K z0.length = K.map trK := by unfold kys; rw [← hKl, List.take_length, List.drop_length, List.append_nil]
      have hDs : dueK K z0.length = (K.map trK).flatMap pcK := by unfold dueK; rw [← hKl, List.take_length]
      rw [hKs] at hk
      exact ⟨rfl, (zs, due, od, cd, ow, cw), ⟨rfl, rfl, rfl, rfl, trivial⟩, Takes.ent, ⟨hzs, hk, by rw [hdue, hDs], hdue ▸ dueK_len hKn z0.length⟩, rfl⟩
  · rintro ⟨zs, due, od, cd, ow, cw⟩ ⟨hzs, hk, hDs, hDl⟩
    have hD0 : 0 < due.length := by
      have : ∃ K', K = (0, 300, []) :: K' := by rw [← hK0, ← hz0]; exact ⟨_, rfl⟩
      obtain ⟨K', rfl⟩ := this
      rw [hDs, List.map_cons, List.flatMap_cons, List.length_append]
      have : (pcK (trK (0, 300, []))).length = 2 := by
        show (num 300).length = 2
        rw [num_ge (by decide), num_lt (by decide)]; rfl
      omega
    have hKs2 : ∀ q ∈ K.map trK, okK q ∧ q.2.2.length ≤ 200 := by
      intro q m
      obtain ⟨q', h', rfl⟩ := List.mem_map.1 m
      exact ⟨hKn q' h', trK_len q'⟩
    generalize K.map trK = Ks at hk hKs2 hDs
    refine ari (by omega) ?_
    refine xshare od ?_
    refine xremn hD0 ?_
    have hen : cut % due.length < due.length := Nat.mod_lt _ hD0
    generalize cut % due.length = en at hen
    refine xslc rfl .no (h := en) (.is rfl) rfl (Nat.zero_le _) (by omega) fun o9 c9 => ?_
    rw [List.drop_zero]
    refine xrow (el := 24) (k := 1) rfl rfl rfl rfl fun bb => ?_
    refine cparts bb [⟨od, cd, due⟩, ⟨o9, c9, due.take en⟩] rfl (Nat.le_of_ble_eq_true rfl) ?_
    refine callNil ?_
    refine callCons o9 c9 (due.take en) [] ?_
    refine callCons od cd due [⟨o9, c9, due.take en⟩] ?_
    refine xcut (ι := Unit) 3 (fun _ => [(0, .v (.slice o2 z0.length c2)), (1, .v (.int .u16 cut)), (5, .v (.pointer (some ⟨bw, 0, none⟩))), (6, .v (.slice od due.length cd))]) (fun _ => [vof 26 3 eP o2 c2 zs, allS (zs.map Pc.bs), pts bw 155 [.slice ow due.length cw, .bool true], sof 1 eB ow cw due, sof 1 eB od cd due]) (fun _ => True) (fun _ => rfl) ?_ ?_
    · refine xloop (ι := Nat)
        (fun j => [(0, .v (.slice o2 z0.length c2)), (1, .v (.int .u16 cut)), (5, .v (.pointer (some ⟨bw, 0, none⟩))), (6, .v (.slice od due.length cd)), (166, .v (.slice (some ⟨bb, 0, none⟩) 2 2)), (167, .v (.int .i64 (2 : Nat))), (168, .v (.int .i64 j))])
        (fun j => [sof 1 eS (some ⟨bb, 0, none⟩) 2 [⟨od, cd, due⟩, ⟨o9, c9, due.take en⟩], allS [⟨od, cd, due⟩, ⟨o9, c9, due.take en⟩], vof 26 3 eP o2 c2 zs, allS (zs.map Pc.bs), pts bw 155 [.slice ow due.length cw, .bool true], sof 1 eB ow cw due, sof 1 eB od cd due])
        (fun j => j ≤ 2) (fun j => 2 - j) 0
        ⟨⟨rfl, rfl, rfl, rfl, rfl, rfl, rfl, trivial⟩, Takes.ent, Nat.zero_le _, rfl⟩ (fun _ => rfl) ?_
      intro j hj
      refine brd (fun hj2 => ?_) (fun hj2 => ?_)
      · have hex : ∃ pb e, ([⟨od, cd, due⟩, ⟨o9, c9, due.take en⟩] : List BS)[j]? = some pb ∧ pb.xs = due.take e ∧ e ≤ due.length := by
          rcases (show j = 0 ∨ j = 1 by omega) with rfl | rfl
          · exact ⟨_, due.length, rfl, (List.take_length).symm, Nat.le_refl _⟩
          · exact ⟨_, en, rfl, rfl, by omega⟩
        obtain ⟨⟨pbo, pbc, pbx⟩, e, hpb, hpx, he⟩ := hex
        simp only at hpx
        have hpl : pbx.length = e := by rw [hpx, List.length_take]; omega
        have hposN : posK Ks z0.length = due.length := by
          have : Ks.length = z0.length := by rw [← hk, List.length_map, hzs]
          unfold posK
          rw [← this, List.take_length, hDs]
        have hrst0 : pbx = (rstK Ks 0).take (e - posK Ks 0) := by rw [hpx, hDs]; rfl
        refine xidx rfl (Nat.le_refl _) (by omega) ?_
        refine xlde (x := ⟨pbo, pbc, pbx⟩) rfl hpb rfl ?_
        refine xgetS [⟨od, cd, due⟩, ⟨o9, c9, due.take en⟩] hpb ?_
        refine xcallr (read_spec pbo pbc pbx (by omega)) ?_
        rintro _ _ ⟨br, or, cr, rfl, rfl⟩
        refine xcut (ι := List UInt8 × Option Addr × Nat × Nat × Int) 5 (fun (rest, or, cr, a, fl) => [(0, .v (.slice o2 z0.length c2)), (1, .v (.int .u16 cut)), (5, .v (.pointer (some ⟨bw, 0, none⟩))), (6, .v (.slice od due.length cd)), (166, .v (.slice (some ⟨bb, 0, none⟩) 2 2)), (167, .v (.int .i64 (2 : Nat))), (168, .v (.int .i64 j)), (13, .v (.pointer (some ⟨br, 0, none⟩))), (15, .v (.int .i64 fl))]) (fun (rest, or, cr, a, fl) => [pts br 162 [.slice or rest.length cr, .int .i64 a, .int .i64 fl, .bool true], sof 1 eB or cr rest, sof 1 eS (some ⟨bb, 0, none⟩) 2 [⟨od, cd, due⟩, ⟨o9, c9, due.take en⟩], allS [⟨od, cd, due⟩, ⟨o9, c9, due.take en⟩], vof 26 3 eP o2 c2 zs, allS (zs.map Pc.bs), pts bw 155 [.slice ow due.length cw, .bool true], sof 1 eB ow cw due, sof 1 eB od cd due])
          (fun (rest, or, cr, a, fl) => (fl = 0 ∧ rest.length = 0) ∨ fl = 120) (fun _ => rfl) ?_ ?_
        · refine xloop (ι := Nat × List UInt8 × Option Addr × Nat × Nat × Int)
            (fun (i, rest, or, cr, a, fl) => [(0, .v (.slice o2 z0.length c2)), (1, .v (.int .u16 cut)), (5, .v (.pointer (some ⟨bw, 0, none⟩))), (6, .v (.slice od due.length cd)), (166, .v (.slice (some ⟨bb, 0, none⟩) 2 2)), (167, .v (.int .i64 (2 : Nat))), (168, .v (.int .i64 j)), (12, .v (.slice pbo pbx.length pbc)), (13, .v (.pointer (some ⟨br, 0, none⟩))), (14, .v (.int .i64 a)), (15, .v (.int .i64 fl)), (176, .v (.slice o2 z0.length c2)), (177, .v (.int .i64 z0.length)), (178, .v (.int .i64 i))])
            (fun (i, rest, or, cr, a, fl) => [pts br 162 [.slice or rest.length cr, .int .i64 a, .int .i64 fl, .bool true], sof 1 eB or cr rest, sof 1 eS (some ⟨bb, 0, none⟩) 2 [⟨od, cd, due⟩, ⟨o9, c9, due.take en⟩], allS [⟨od, cd, due⟩, ⟨o9, c9, due.take en⟩], vof 26 3 eP o2 c2 zs, allS (zs.map Pc.bs), pts bw 155 [.slice ow due.length cw, .bool true], sof 1 eB ow cw due, sof 1 eB od cd due])
            (fun (i, rest, or, cr, a, fl) => i ≤ z0.length ∧ rest.length + a ≤ e ∧ ((fl = 0 ∧ a = posK Ks i ∧ rest = (rstK Ks i).take (e - posK Ks i)) ∨ fl = 120)) (fun (i, _) => z0.length - i) (0, pbx, or, cr, 0, 0)
            ⟨⟨rfl, rfl, rfl, rfl, rfl, rfl, rfl, rfl, rfl, rfl, rfl, rfl, rfl, rfl, trivial⟩, Takes.ent, ⟨Nat.zero_le _, by omega, .inl ⟨rfl, rfl, hrst0⟩⟩, rfl⟩ (fun _ => rfl) ?_
          rintro ⟨i, rest, or, cr, a, fl⟩ ⟨hi2, hra, hst⟩
          refine brd (fun h2 => ?_) (fun h2 => ?_)
          · have hq : zs[i]? = some zs[i] := List.getElem?_eq_getElem (by omega)
            generalize zs[i] = q at hq
            have hqk : Ks[i]? = some q.key := by rw [← hk, List.getElem?_map, hq]; rfl
            obtain ⟨hqn, hql⟩ := hKs2 q.key (List.mem_of_getElem? hqk)
            have hql : q.bs.xs.length ≤ 200 := hql
            have hpcl := pc_len q.k q.n q.bs.xs hqn (by omega)
            have hpk : pcK q.key = pc q.k q.n q.bs.xs := rfl
            have hps := pos_step hqk
            rw [hpk] at hps
            refine xidx rfl (by omega) (by omega) ?_
            refine xldes rfl rfl hq ?_
            refine xnewq [.int .u8 0, .int .i64 0, .slice none 0 0] rfl fun bx => ?_
            refine xstq [.int .u8 q.k.toNat, .int .i64 q.n, .slice q.bs.oa q.bs.xs.length q.bs.cap] rfl rfl rfl rfl ?_
            refine xlds (vs := [.int .u8 q.k.toNat, .int .i64 q.n, .slice q.bs.oa q.bs.xs.length q.bs.cap]) rfl rfl rfl ?_
            refine xgetS (zs.map Pc.bs) (i := i) (p := q.bs) (by rw [List.getElem?_map, hq]; rfl) ?_
            refine xcallr (piece_spec q.k q.n hqn q.bs.oa q.bs.cap q.bs.xs (by omega)) ?_
            rintro _ _ ⟨o10, c10, rfl, rfl⟩
            rcases hst with ⟨rfl, ha, hr⟩ | rfl
            · refine brqy rfl ?_
              refine ari (by omega) ?_
              refine brd (fun hg => ?_) (fun hg => ?_)
              · refine brqn (by decide) ?_
                refine xlds (vs := [.int .u8 q.k.toNat, .int .i64 q.n, .slice q.bs.oa q.bs.xs.length q.bs.cap]) rfl rfl rfl ?_
                have hE := rdP_cut hqk (e := e) (by rw [hpk]; omega) (by omega) hqn (by show q.bs.xs.length ≤ 1000; omega)
                rw [← hr] at hE
                refine xcallr (taken_spec q.k q.n hqn q.bs.oa q.bs.cap q.bs.xs (by omega) br or cr rest a 0 120 (by omega) (by omega)) ?_
                rintro _ _ (⟨t, r, o, c, hr', hc, rfl, rfl⟩ | ⟨e', hr', he', rfl, rfl⟩)
                · exact absurd (hr'.symm.trans hE) (by simp)
                · obtain rfl : e' = 120 := by have := hr'.symm.trans hE; simpa using this
                  refine brf rfl ?_
                  refine xcallr (rAt br or cr rest a 120) ?_
                  rintro _ _ ⟨rfl, rfl⟩
                  refine brun rfl ?_
                  refine ari (by omega) ?_
                  exact ⟨(i + 1, rest, or, cr, a, 120), ⟨⟨rfl, rfl, rfl, rfl, rfl, rfl, rfl, rfl, rfl, rfl, rfl, rfl, rfl, rfl, trivial⟩, Takes.ent, ⟨by omega, hra, .inr rfl⟩, rfl⟩, by show z0.length - (i + 1) < z0.length - i; omega⟩
              · refine brqy rfl ?_
                refine ari (by omega) ?_
                refine xlds (vs := [.int .u8 q.k.toNat, .int .i64 q.n, .slice q.bs.oa q.bs.xs.length q.bs.cap]) rfl rfl rfl ?_
                have hE := rdP_fits hqk (e := e) (by rw [hpk]; omega) hqn (by show q.bs.xs.length ≤ 1000; omega)
                rw [← hr] at hE
                refine xcallr (taken_spec q.k q.n hqn q.bs.oa q.bs.cap q.bs.xs (by omega) br or cr rest a 0 0 (by omega) (by omega)) ?_
                rintro _ _ (⟨t, r, o, c, hr', hc, rfl, rfl⟩ | ⟨e', hr', he', rfl, rfl⟩)
                · have hE' := hr'.symm.trans hE
                  simp only [Except.ok.injEq, Prod.mk.injEq] at hE'
                  obtain ⟨rfl, hrr⟩ := hE'
                  have hfl : (Ks.flatMap pcK).length = due.length := by rw [← hDs]
                  have hlr := pos_rst Ks i
                  have hlr2 := pos_rst Ks (i + 1)
                  have e1 : r.length = e - posK Ks (i + 1) := by rw [hrr, List.length_take]; omega
                  have e2 : rest.length = e - posK Ks i := by rw [hr, List.length_take]; omega
                  have hat : (a : Int) + rest.length - r.length = ((a + (pc q.k q.n q.bs.xs).length : Nat) : Int) := by omega
                  rw [hat]
                  refine brf rfl ?_
                  refine xcallr (rAt br o c r ((a + (pc q.k q.n q.bs.xs).length : Nat) : Int) 0) ?_
                  rintro _ _ ⟨rfl, rfl⟩
                  refine brun (by omega) ?_
                  refine ari (by omega) ?_
                  exact ⟨(i + 1, r, o, c, a + (pc q.k q.n q.bs.xs).length, 0), ⟨⟨rfl, rfl, rfl, rfl, rfl, rfl, rfl, rfl, rfl, rfl, rfl, rfl, rfl, rfl, trivial⟩, Takes.ent, ⟨by omega, by omega, .inl ⟨rfl, by omega, hrr⟩⟩, rfl⟩, by show z0.length - (i + 1) < z0.length - i; omega⟩
                · exact absurd (hr'.symm.trans hE) (by simp)
            · refine brqn (by decide) ?_
              refine brqn (by decide) ?_
              refine xlds (vs := [.int .u8 q.k.toNat, .int .i64 q.n, .slice q.bs.oa q.bs.xs.length q.bs.cap]) rfl rfl rfl ?_
              refine xcallr (taken_spec q.k q.n hqn q.bs.oa q.bs.cap q.bs.xs (by omega) br or cr rest a 120 120 (by omega) (by omega)) ?_
              rintro _ _ (⟨t, r, o, c, hr', hc, rfl, rfl⟩ | ⟨e', hr', he', rfl, rfl⟩)
              · exact absurd hr' (by simp [res])
              · obtain rfl : e' = 120 := by simpa [res, eq_comm] using hr'
                refine brf rfl ?_
                refine xcallr (rAt br or cr rest a 120) ?_
                rintro _ _ ⟨rfl, rfl⟩
                refine brun rfl ?_
                refine ari (by omega) ?_
                exact ⟨(i + 1, rest, or, cr, a, 120), ⟨⟨rfl, rfl, rfl, rfl, rfl, rfl, rfl, rfl, rfl, rfl, rfl, rfl, rfl, rfl, trivial⟩, Takes.ent, ⟨by omega, hra, .inr rfl⟩, rfl⟩, by show z0.length - (i + 1) < z0.length - i; omega⟩
          · have hiN2 : i = z0.length := by omega
            refine ⟨rfl, (rest, or, cr, a, fl), ⟨rfl, rfl, rfl, rfl, rfl, rfl, rfl, rfl, rfl, trivial⟩, Takes.ent, ?_, rfl⟩
            rcases hst with ⟨rfl, ha, hr⟩ | rfl
            · left
              rw [hiN2, hposN] at ha
              exact ⟨rfl, by omega⟩
            · exact .inr rfl
        · rintro ⟨rest, or, cr, a, fl⟩ hst
          refine xcallr (rEnd br or cr rest a fl) ?_
          rintro _ _ ⟨rfl, rfl⟩
          refine brun ?_ ?_
          · rcases hst with ⟨rfl, hr⟩ | rfl
            · rw [if_pos rfl, if_pos hr]
            · rfl
          refine ari (by omega) ?_
          exact ⟨j + 1, ⟨⟨rfl, rfl, rfl, rfl, rfl, rfl, rfl, trivial⟩, Takes.ent, by omega, rfl⟩, by show 2 - (j + 1) < 2 - j; omega⟩
      · exact ⟨rfl, (), ⟨rfl, rfl, rfl, rfl, trivial⟩, Takes.ent, trivial, rfl⟩
    · rintro _ -
      refine xcallr (clone_spec od cd due (by omega)) ?_
      rintro _ _ ⟨o20, c20, rfl, rfl⟩
      refine xrow (el := 5) (k := 1) rfl rfl rfl rfl fun b21 => ?_
      refine xappl [9] rfl rfl rfl rfl (fun y _ => fineB y) (by simp; omega) fun o22 c22 => ?_
      refine xshare o22 ?_
      refine xcallr (read_spec o22 c22 (due ++ [9]) (by simp; omega)) ?_
      rintro _ _ ⟨br, or, cr, rfl, rfl⟩
      have hKsl : Ks.length = z0.length := by rw [← hk, List.length_map, hzs]
      refine xcut (ι := List UInt8 × Option Addr × Nat × Int) 7 (fun (rest, or, cr, a) => [(0, .v (.slice o2 z0.length c2)), (1, .v (.int .u16 cut)), (5, .v (.pointer (some ⟨bw, 0, none⟩))), (6, .v (.slice od due.length cd)), (19, .v (.pointer (some ⟨br, 0, none⟩)))]) (fun (rest, or, cr, a) => [pts br 162 [.slice or rest.length cr, .int .i64 a, .int .i64 0, .bool true], sof 1 eB or cr rest, pts bw 155 [.slice ow due.length cw, .bool true], sof 1 eB ow cw due, sof 1 eB od cd due])
        (fun (rest, or, cr, a) => rest.length = 1) (fun _ => rfl) ?_ ?_
      · refine xloop (ι := Nat × List UInt8 × Option Addr × Nat × Int)
          (fun (i, rest, or, cr, a) => [(0, .v (.slice o2 z0.length c2)), (1, .v (.int .u16 cut)), (5, .v (.pointer (some ⟨bw, 0, none⟩))), (6, .v (.slice od due.length cd)), (19, .v (.pointer (some ⟨br, 0, none⟩))), (222, .v (.slice o2 z0.length c2)), (223, .v (.int .i64 z0.length)), (224, .v (.int .i64 i))])
          (fun (i, rest, or, cr, a) => [pts br 162 [.slice or rest.length cr, .int .i64 a, .int .i64 0, .bool true], sof 1 eB or cr rest, vof 26 3 eP o2 c2 zs, allS (zs.map Pc.bs), pts bw 155 [.slice ow due.length cw, .bool true], sof 1 eB ow cw due, sof 1 eB od cd due])
          (fun (i, rest, or, cr, a) => i ≤ z0.length ∧ 0 ≤ a ∧ a + rest.length = due.length + 1 ∧ rest = rstK Ks i ++ [9]) (fun (i, _) => z0.length - i) (0, due ++ [9], or, cr, 0)
          ⟨⟨rfl, rfl, rfl, rfl, rfl, rfl, rfl, rfl, trivial⟩, Takes.ent, ⟨Nat.zero_le _, Int.le_refl _, by simp, by rw [hDs]; rfl⟩, rfl⟩ (fun _ => rfl) ?_
        rintro ⟨i, rest, or, cr, a⟩ ⟨hi2, ha0, hra, hst⟩
        refine brd (fun h2 => ?_) (fun h2 => ?_)
        · have hq : zs[i]? = some zs[i] := List.getElem?_eq_getElem (by omega)
          generalize zs[i] = q at hq
          have hqk : Ks[i]? = some q.key := by rw [← hk, List.getElem?_map, hq]; rfl
          obtain ⟨hqn, hql⟩ := hKs2 q.key (List.mem_of_getElem? hqk)
          have hql : q.bs.xs.length ≤ 200 := hql
          refine xidx rfl (by omega) (by omega) ?_
          refine xldes rfl rfl hq ?_
          refine xnewq [.int .u8 0, .int .i64 0, .slice none 0 0] rfl fun bx => ?_
          refine xstq [.int .u8 q.k.toNat, .int .i64 q.n, .slice q.bs.oa q.bs.xs.length q.bs.cap] rfl rfl rfl rfl ?_
          refine xlds (vs := [.int .u8 q.k.toNat, .int .i64 q.n, .slice q.bs.oa q.bs.xs.length q.bs.cap]) rfl rfl rfl ?_
          refine xgetS (zs.map Pc.bs) (i := i) (p := q.bs) (by rw [List.getElem?_map, hq]; rfl) ?_
          have hE : rdP q.k q.n q.bs.xs rest = .ok (true, rstK Ks (i + 1) ++ [9]) := by
            rw [hst, rst_step hqk, List.append_assoc]
            exact rdP_all q.k q.n q.bs.xs _ hqn (by omega)
          refine xcallr (taken_spec q.k q.n hqn q.bs.oa q.bs.cap q.bs.xs (by omega) br or cr rest a 0 0 (by omega) (by omega)) ?_
          rintro _ _ (⟨t, r, o, c, hr', hc, rfl, rfl⟩ | ⟨e', hr', he', rfl, rfl⟩)
          · have hE' := hr'.symm.trans hE
            simp only [Except.ok.injEq, Prod.mk.injEq] at hE'
            obtain ⟨rfl, hrr⟩ := hE'
            refine brf rfl ?_
            refine ari (by omega) ?_
            exact ⟨(i + 1, r, o, c, a + rest.length - r.length), ⟨⟨rfl, rfl, rfl, rfl, rfl, rfl, rfl, rfl, trivial⟩, Takes.ent, ⟨by omega, by omega, by omega, hrr⟩, rfl⟩, by show z0.length - (i + 1) < z0.length - i; omega⟩
          · exact absurd (hr'.symm.trans hE) (by simp)
        · refine ⟨rfl, (rest, or, cr, a), ⟨rfl, rfl, rfl, rfl, rfl, trivial⟩, Takes.ent, ?_, rfl⟩
          have : i = Ks.length := by omega
          subst this
          rw [hst]
          unfold rstK
          rw [List.drop_length]
          rfl
      · rintro ⟨rest, or, cr, a⟩ hrl
        have hm := or14 hcut
        refine aru (by omega) ?_
        refine xcallr (by rw [hm.1]; exact number_spec (cut ||| 16384) (by omega)) ?_
        rintro _ _ ⟨o30, c30, rfl, rfl⟩
        rw [num3 hm.2.1 (by omega)]
        refine xtrunc rfl (h := 2) (.is rfl) rfl (Nat.le_of_ble_eq_true rfl) [UInt8.ofNat ((cut ||| 16384) % 128 + 128), UInt8.ofNat ((cut ||| 16384) / 128 % 128 + 128)] rfl ?_
        refine ar ?_
        refine xrow (el := 5) (k := 1) rfl rfl rfl rfl fun b31 => ?_
        refine xappl [UInt8.ofNat (cut / 16384 % 128 + 128), 0] rfl rfl rfl (by simp only [List.flatMap_cons, List.flatMap_nil, eB, ← or128, ior_comm8]; rfl) (fun y _ => fineB y) (Nat.le_of_ble_eq_true rfl) fun o32 c32 => ?_
        refine xshare o32 ?_
        refine xcallr (read_spec o32 c32 _ (Nat.le_of_ble_eq_true rfl)) ?_
        rintro _ _ ⟨br2, or2, cr2, rfl, rfl⟩
        refine xcallr (rNumber br2 or2 cr2 ([UInt8.ofNat ((cut ||| 16384) % 128 + 128), UInt8.ofNat ((cut ||| 16384) / 128 % 128 + 128)] ++ [UInt8.ofNat (cut / 16384 % 128 + 128), 0]) 0 0 1099511627776 (by decide) (Nat.le_of_ble_eq_true rfl) (by show _ ∧ (0 : Int) ≤ 1000000 - (4 : Nat); omega)) ?_
        rintro _ _ (⟨x, r, o, c, o1, c1, hr', hc, rfl, rfl⟩ | ⟨e, hr', he, rfl, rfl⟩)
        · exact absurd hr' (by
            show ¬ rdNum _ [_, _, _, _] = _
            rw [rdNum_form (by rw [ofNat_toNat (by omega)]; omega) (by rw [ofNat_toNat (by omega)]; omega) (by rw [ofNat_toNat (by omega)]; omega)]
            simp)
        obtain rfl : e = 121 := by
          have : rdNum 1099511627776 [_, _, _, _] = .error e := hr'
          rw [rdNum_form (by rw [ofNat_toNat (by omega)]; omega) (by rw [ofNat_toNat (by omega)]; omega) (by rw [ofNat_toNat (by omega)]; omega)] at this
          simpa [eq_comm] using this
        refine arue (m := ((cut + 1 : Nat) : Int)) (by omega) (by omega) ?_
        refine xcallr (number_spec (cut + 1) (by omega)) ?_
        rintro _ _ ⟨o33, c33, rfl, rfl⟩
        have hl10 := num_len10 (n := cut + 1) (by omega)
        refine xshare o33 ?_
        refine xcallr (read_spec o33 c33 (num (cut + 1)) (by omega)) ?_
        rintro _ _ ⟨br3, or3, cr3, rfl, rfl⟩
        refine ari (by omega) ?_
        refine xcallr (rNumber br3 or3 cr3 (num (cut + 1)) 0 0 cut (by omega) (by omega) (by omega)) ?_
        have hL : res 0 (rdNum (cut : Int) (num (cut + 1))) = .error 3 := rdNum_long hcut
        rintro _ _ (⟨x, r, o, c, o1, c1, hr', hc, rfl, rfl⟩ | ⟨e, hr', he, rfl, rfl⟩)
        · exact absurd (hL.symm.trans hr') (by simp)
        obtain rfl : e = 3 := by have := hL.symm.trans hr'; simpa [eq_comm] using this
        refine xcallr (rEnd br or cr rest a 0) ?_
        rintro _ _ ⟨rfl, rfl⟩
        rw [if_pos rfl, if_neg (by omega)]
        refine brqy rfl ?_
        refine xcallr (wNumber_bad bw (.slice ow due.length cw) (-1) (by decide)) ?_
        rintro _ _ ⟨rfl, rfl⟩
        refine brqy rfl ?_
        refine brqy rfl ?_
        refine brqy rfl ?_
        refine xcallr (wAll_ok bw ow cw due (by omega)) ?_
        rintro _ _ ⟨o40, c40, rfl, rfl⟩
        refine xshare o40 ?_
        refine xcallr (equal_spec o40 od c40 cd due due) ?_
        rintro _ _ ⟨rfl, rfl⟩
        exact xret (M := []) (by simp [resOf])

end Go.X
