/- Verification conditions that are computed from the code of a function, over the assertions of XOwn. A library; no statement of the seat is proved here. -/
import Derived.Test.YtbgjlghhcclooaaXOwn
import Derived.Tactics
import Derived.Deep.Quiet
import Derived.StillTail
import Derived.RangeFuncLeaves
import Derived.RangeFuncNested
import Derived.TacticsIn
namespace Go.X
open Go

/-- What a slot holds: a value; true, false (decided); nothing; the deferred calls (under the key dkey alone). -/
inductive SV where
  | v (x : Value)
  | t
  | f
  | u
  | d (ds : List Deferred)

def SV.val : SV → Value
  | .v x => x
  | .t => .bool true
  | .f => .bool false
  | .u => undef
  | .d _ => undef

@[simp] theorem SV.val_v (x : Value) : (SV.v x).val = x := rfl
@[simp] theorem SV.val_t : SV.t.val = .bool true := rfl
@[simp] theorem SV.val_f : SV.f.val = .bool false := rfl
@[simp] theorem SV.val_u : SV.u.val = undef := rfl
def SV.isD : SV → Bool
  | .d _ => true
  | _ => false

abbrev Env := List (Nat × SV)
def lk : Env → Nat → Option SV
  | [], _ => none
  | (k, v) :: e, i => bif Nat.beq k i then some v else lk e i

def dkey : Nat := 1000000
def dfs (env : Env) : List Deferred := match lk env dkey with | some (.d ds) => ds | _ => []

/-- Marks of loops over functions: calls that are deferred in rounds (there are none). -/
def mk (ms : List Nat) : List Deferred := ms.map fun D => { target := .collected D, args := #[] }
structure Fr (a : Act) (n : Nat) (env : Env) (ms : List Nat) : Prop where
  size : a.tmps.size = n
  le : n ≤ dkey
  get : ∀ i v, lk env i = some v → v.isD = false → a.tmps[i]? = some v.val
  defs : a.defers = mk ms

def svOf : Value → SV
  | .bool true => .t
  | .bool false => .f
  | v => .v v
theorem svOf_val (v : Value) : (svOf v).val = v := by cases v <;> try rfl
                                                      next b => cases b <;> rfl
theorem svOf_isD (v : Value) : (svOf v).isD = false := by cases v <;> try rfl
                                                          next b => cases b <;> rfl

def ev (env : Env) : Operand → Option SV
  | .tmp t => lk env t
  | .const v => some (svOf v)
  | .global g => some (.v (.pointer (some ⟨g, 0, none⟩)))
  | .func f => some (.v (.func (.func f) #[] #[]))

/-- The values of operands, as the frame has them. -/
def Agrees (ρ : Operand → Value) (env : Env) : Prop := ∀ x v, ev env x = some v → v.isD = false → ρ x = v.val

theorem Fr.agrees {a : Act} {n : Nat} {env : Env} {ms : List Nat} (h : Fr a n env ms) : Agrees a.eval env := by
  intro x v hx hd
  cases x with
  | tmp t =>
    have := h.get t v hx hd
    simp only [Act.eval, Array.getD_eq_getD_getElem?, this, Option.getD_some]
  | const c => simp only [ev, Option.some.injEq] at hx; subst hx; simp [Act.eval, svOf_val]
  | global g => simp only [ev, Option.some.injEq] at hx; subst hx; rfl
  | func g => simp only [ev, Option.some.injEq] at hx; subst hx; rfl

def evv (env : Env) (x : Operand) : Option Value :=
  match ev env x with
  | some (.v x) => some x
  | some .t => some (.bool true)
  | some .f => some (.bool false)
  | some .u => some undef
  | _ => none

theorem Agrees.evv {ρ : Operand → Value} {env : Env} (h : Agrees ρ env) {x : Operand} {v : Value} (e : evv env x = some v) : ρ x = v := by
  unfold X.evv at e
  split at e <;> rename_i hx <;> simp only [Option.some.injEq, reduceCtorEq] at e <;> (subst e; exact h _ _ hx rfl)

def evvs (env : Env) : List Operand → Option (List Value)
  | [] => some []
  | o :: os => match evv env o with
    | some v => match evvs env os with
      | some vs => some (v :: vs)
      | none => none
    | none => none

theorem Agrees.evvs {ρ : Operand → Value} {env : Env} (h : Agrees ρ env) : ∀ {xs : List Operand} {vs : List Value}, evvs env xs = some vs → xs.map ρ = vs
  | [], vs, e => by simp only [X.evvs, Option.some.injEq] at e; subst e; rfl
  | x :: xs, vs, e => by
    unfold X.evvs at e
    split at e
    · rename_i v hv
      split at e
      · rename_i ws hw
        simp only [Option.some.injEq] at e
        subst e
        simp [h.evv hv, Agrees.evvs h hw]
      · cases e
    · cases e

def evp (env : Env) : List (Nat × Operand) → Option (List (Nat × Value))
  | [] => some []
  | (i, o) :: os => match evv env o with
    | some v => match evp env os with
      | some vs => some ((i, v) :: vs)
      | none => none
    | none => none

theorem Agrees.evp {ρ : Operand → Value} {env : Env} (h : Agrees ρ env) : ∀ {xs : List (Nat × Operand)} {vs : List (Nat × Value)}, evp env xs = some vs → xs.map (fun (i, x) => (i, ρ x)) = vs
  | [], vs, e => by simp only [X.evp, Option.some.injEq] at e; subst e; rfl
  | (i, x) :: xs, vs, e => by
    unfold X.evp at e
    split at e
    · rename_i v hv
      split at e
      · rename_i ws hw
        simp only [Option.some.injEq] at e
        subst e
        simp [h.evv hv, Agrees.evp h hw]
      · cases e
    · cases e

def evo (env : Env) : Option Operand → Option (Option Value)
  | none => some none
  | some x => match evv env x with
    | some v => some (some v)
    | none => none
theorem Agrees.evo {ρ : Operand → Value} {env : Env} (h : Agrees ρ env) {x : Option Operand} {v : Option Value} (e : evo env x = some v) : x.map ρ = v := by
  unfold X.evo at e
  split at e
  · simp only [Option.some.injEq] at e; subst e; rfl
  · split at e
    · rename_i hv
      simp only [Option.some.injEq] at e
      subst e
      simp [h.evv hv]
    · cases e

/-- What the walk asks of a type. -/
structure TyI where
  kind : Nat        -- see kindOf
  size : Nat
  bytes : Nat
  elem : Nat        -- the element's type, where there is one
  offs : List Nat   -- where the fields begin
  szs : List Nat    -- how many cells each has
  zero : List Value

def kindOf : TypeDesc → Nat
  | .int _ => 1
  | .bool => 2
  | .string => 3
  | .pointer _ => 4
  | .slice _ => 5
  | .array _ _ => 6
  | .struct _ => 7
  | .func .. => 8
  | .map _ _ => 9
  | .interface _ => 10
  | .tuple _ => 11
  | _ => 0

abbrev Tab := List (Nat × TyI)
def tk : Tab → Nat → Option TyI
  | [], _ => none
  | (k, v) :: e, i => bif Nat.beq k i then some v else tk e i

def descOK (P : Program) (d : TypeDesc) (i : TyI) : Prop :=
  kindOf d = i.kind ∧ match d with
    | .struct fs => fs.toList.map (·.offset) = i.offs ∧ (fs.toList.all fun f => (P.info? f.type).any (·.size != 0)) = true ∧ fs.toList.map (fun f => ((P.info? f.type).map (·.size)).getD 0) = i.szs
    | .int k => ∃ n, i.zero = [.int k n]
    | .slice e => e = i.elem
    | .array n e => e = i.elem ∧ i.offs = [n]
    | _ => True

structure TyOK (P : Program) (t : Nat) (i : TyI) : Prop where
  info : ∃ x, P.info? t = some x ∧ x.size = i.size ∧ x.bytes = i.bytes ∧ x.zero.map Value.cells = some i.zero.toArray
  desc : ∃ d, P.underlying t = some d ∧ descOK P d i

def TabOK (P : Program) (T : Tab) : Prop := ∀ t i, tk T t = some i → TyOK P t i

theorem TabOK.nil (P : Program) : TabOK P [] := fun _ _ h => by cases h
theorem TabOK.cons {P : Program} {t : Nat} {i : TyI} {T : Tab} (h : TyOK P t i) (k : TabOK P T) : TabOK P ((t, i) :: T) := by
  intro s j e
  unfold tk at e
  cases hb : Nat.beq t s with
  | true =>
    simp only [hb, cond_true, Option.some.injEq] at e
    have := Nat.eq_of_beq_eq_true hb
    subst this; subst e; exact h
  | false => simp only [hb, cond_false] at e; exact k s j e

/-- Effects: operations that ask the world, or may fail. -/
inductive Eff where
  | load (t : TypeId) (a : Addr)
  | store (t : TypeId) (a : Addr) (v : Value)
  | new (t : TypeId) (cs : List Value)
  | row (t : TypeId) (n : Nat) (parts : List (Nat × Value))
  | bld (t : TypeId) (parts : List (Nat × Value))
  | slc (t : TypeId) (x : Value) (lo hi mx : Option Value)
  | idx (t : TypeId) (x i : Value)
  | ind (t : TypeId) (x i : Value)
  | bin (op : BinOp) (t : TypeId) (cx cy : Bool) (x y : Value)
  | cnv (s d : TypeId) (x : Value)
  | blt (b : Builtin) (tys : List TypeId) (ty : TypeId) (consts : List Bool) (args : List Value)
  | call (f : FuncId) (args : List Value)
  | yield (l : Nat) (args : List Value)
  | fld (t : TypeId) (x : Value) (i : Nat)
  | mksl (t : TypeId) (n c : Value)
  | gen (o : Oper) (ρ : Operand → Value)

def opd (c : Bool) (v : Value) : Operand := if c then .const v else .tmp 0
def isC : Operand → Bool
  | .const _ => true
  | _ => false

def Eff.next : Eff → Sem Next
  | .load t a => do pure (.value (← Instr.loadAt t (.pointer (some a))))
  | .store t a v => do Instr.storeAt t (.pointer (some a)) v; pure .skip
  | .new t cs => do pure (.value (.pointer (some (← newRow t cs.toArray))))
  | .row t n ps => do pure (.value (← Instr.buildSlice t n ps.toArray))
  | .bld t ps => do pure (.value (← Instr.build t ps.toArray))
  | .slc t x lo hi mx => do pure (.value (← Instr.sliceAt t x lo hi mx))
  | .idx t x i => do pure (.value (← Instr.indexAt t x i))
  | .ind t x i => do pure (.value (← Instr.index t x i))
  | .bin op t cx cy x y => do eqGuard op t (opd cx x) (opd cy y) x y; pure (.value (← binOp op t x y))
  | .cnv s d x => do pure (.value (← convert s d x))
  | .blt b tys ty cs args => builtin b tys.toArray ty cs.toArray args.toArray
  | .call f args => callFunc f args.toArray
  | .yield l args => Instr.yield l args.toArray
  | .fld t x i => do pure (.value (← Instr.field t x i))
  | .mksl t n c => do pure (.value (← Instr.makeSlice t n c))
  | .gen o ρ => execOp ρ o

/-- A test: either way, where it is not decided; or what is said of both at once. -/
structure Br (b : Bool) (f : Bool → Prop) (S : Prop) : Prop where
  out : f b ∨ S
theorem Br.both {b : Bool} {f : Bool → Prop} (h : Br b f False) : f b := h.out.elim id False.elim
/-- A sum that may wrap. -/
structure Ar (k : IntKind) (n : Int) (K : SV → Prop) : Prop where
  out : K (.v (.int k (k.wrap n)))

/-- & | ^ on words of a kind. -/
def iand (k : IntKind) (m n : Int) : Int := k.wrap (BitVec.ofInt k.bits m &&& BitVec.ofInt k.bits n).toNat
def ior (k : IntKind) (m n : Int) : Int := k.wrap (BitVec.ofInt k.bits m ||| BitVec.ofInt k.bits n).toNat
def ixor (k : IntKind) (m n : Int) : Int := k.wrap (BitVec.ofInt k.bits m ^^^ BitVec.ofInt k.bits n).toNat

def binVC (op : BinOp) (kd : Nat) (cy : Operand) (x y : Value) (emit : Prop) (K : SV → Prop) : Prop :=
  match x, y with
  | .int k m, .int k' n => if k = k' then
    match op with
    | .add => Ar k (m + n) K
    | .sub => Ar k (m - n) K
    | .mul => Ar k (m * n) K
    | .eql => K (.v (.bool (m == n)))
    | .neq => K (.v (.bool (m != n)))
    | .lss => K (.v (.bool (m < n)))
    | .leq => K (.v (.bool (m ≤ n)))
    | .gtr => K (.v (.bool (m > n)))
    | .geq => K (.v (.bool (m ≥ n)))
    | .and => K (.v (.int k (iand k m n)))
    | .or => K (.v (.int k (ior k m n)))
    | .xor => K (.v (.int k (ixor k m n)))
    | .shl => match cy with
      | .const (.int _ (.ofNat s)) => Ar k (m * ((2 ^ min s k.bits : Nat) : Int)) K
      | _ => emit
    | .shr => match cy with
      | .const (.int _ (.ofNat s)) => K (.v (.int k (m / ((2 ^ min s k.bits : Nat) : Int))))
      | _ => emit
    | .quo => match cy with
      | .const (.int _ (.ofNat (s + 1))) => Ar k (m.tdiv ((s + 1 : Nat) : Int)) K
      | _ => emit
    | .rem => match cy with
      | .const (.int _ (.ofNat (s + 1))) => K (.v (.int k (m.tmod ((s + 1 : Nat) : Int))))
      | _ => emit
    | _ => emit
    else match op with
    | .shl => match cy with
      | .const (.int _ (.ofNat s)) => Ar k (m * ((2 ^ min s k.bits : Nat) : Int)) K
      | _ => emit
    | .shr => match cy with
      | .const (.int _ (.ofNat s)) => K (.v (.int k (m / ((2 ^ min s k.bits : Nat) : Int))))
      | _ => emit
    | _ => emit
  | .string a, .string b => match op with
    | .eql => K (.v (.bool (a.toList == b.toList)))
    | .neq => K (.v (.bool !(a.toList == b.toList)))
    | _ => emit
  | .bool a, .bool b => if kd = 2 then (match op with
    | .eql => K (.v (.bool (a == b)))
    | .neq => K (.v (.bool !(a == b)))
    | _ => emit) else emit
  | .pointer (some _), .pointer none => if kd = 4 then (match op with
    | .eql => K .f
    | .neq => K .t
    | _ => emit) else emit
  | .pointer none, .pointer none => if kd = 4 then (match op with
    | .eql => K .t
    | .neq => K .f
    | _ => emit) else emit
  | .slice a _ _, .slice none _ _ => if kd = 5 then (match op with
    | .eql => K (.v (.bool a.isNone))
    | .neq => K (.v (.bool !a.isNone))
    | _ => emit) else emit
  | _, _ => emit

/-- A place further on; what is known of it is worked out. -/
def plus (a : Addr) (k : Nat) : Addr := match k with
  | 0 => a
  | k + 1 => match a with
    | ⟨b, off, none⟩ => ⟨b, off + (k + 1), none⟩
    | a => a.add (k + 1)
theorem plus_eq (a : Addr) (k : Nat) : plus a k = a.add k := by
  unfold plus
  split
  · rfl
  · split
    · unfold Addr.add; split <;> simp_all
    · rfl

def genVC (o : Oper) (env : Env) (emit : Eff → (SV → List Assn → Prop) → Prop) (K : SV → List Assn → Prop) : Prop :=
  match o.op with
  | .select _ _ => False
  | op => match evvs env op.operands.toList with
    | some _ => emit (.gen o fun x => (evv env x).getD undef) K
    | none => False

def opVC (T : Tab) (o : Oper) (env : Env) (L : List Assn) (emit : Eff → (SV → List Assn → Prop) → Prop) (K : SV → List Assn → Prop) : Prop :=
  match o.op with
  | .move x | .assign x => match ev env x with
    | some (.d _) => False
    | some v => K v L
    | none => False
  | .pick c a b => match ev env c with
    | some .t => match ev env a with | some (.d _) => False | some v => K v L | none => False
    | some .f => match ev env b with | some (.d _) => False | some v => K v L | none => False
    | some (.v (.bool c)) => Br c (fun t => match t with
      | true => (match evv env a with | some v => K (.v v) L | none => False)
      | false => (match evv env b with | some v => K (.v v) L | none => False)) False
    | _ => False
  | .alloc t => match tk T t with
    | some { zero, .. } => emit (.new t zero) K
    | none => False
  | .box t x => match evv env x with
    | some (.agg cs) => emit (.new t cs.toList) K
    | some v => emit (.new t [v]) K
    | none => False
  | .build t ps => match evp env ps.toList with
    | some vs => emit (.bld t vs) K
    | none => False
  | .buildSlice t n ps => match evp env ps.toList with
    | some vs => emit (.row t n vs) K
    | none => False
  | .load t p => match evv env p with
    | some (.pointer (some a)) => emit (.load t a) K
    | _ => False
  | .store t p x => match evv env p, evv env x with
    | some (.pointer (some a)), some v => emit (.store t a v) K
    | _, _ => False
  | .nilCheck x => match evv env x with
    | some (.pointer (some a)) => K (.v (.pointer (some a))) L
    | _ => genVC o env emit K
  | .binOp op t x y _ => match evv env x, evv env y, tk T t with
    | some v, some w, some { kind, .. } => binVC op kind y v w (emit (.bin op t (isC x) (isC y) v w) K) fun v => K v L
    | _, _, _ => False
  | .unOp .not _ x => match ev env x with
    | some .t => K .f L
    | some .f => K .t L
    | some (.v (.bool b)) => K (.v (.bool !b)) L
    | _ => False
  | .convert s d x => match evv env x, tk T s, tk T d with
    | some (.int _ n), some _, some { kind := 1, zero := [.int k' _], .. } => Ar k' n fun v => K v L
    | some v, _, _ => emit (.cnv s d v) K
    | _, _, _ => False
  | .makeFunc fn first cap => match evvs env first.toList, evvs env cap.toList with
    | some f, some c => K (.v (.func fn f.toArray c.toArray)) L
    | _, _ => False
  | .makeSlice t n c => match evv env n, evv env c with
    | some n, some c => emit (.mksl t n c) K
    | _, _ => False
  | .slice t x lo hi mx => match evv env x, evo env lo, evo env hi, evo env mx with
    | some v, some lo, some hi, some mx => emit (.slc t v lo hi mx) K
    | _, _, _, _ => False
  | .fieldAddr s x f => match evv env x, tk T s with
    | some (.pointer (some a)), some { offs, kind := 7, .. } => (match offs[f]? with
      | some k => K (.v (.pointer (some (plus a k)))) L
      | none => False)
    | some _, _ => genVC o env emit K
    | _, _ => False
  | .field t x f => match evv env x with
    | some v => emit (.fld t v f) K
    | none => False
  | .indexAddr t x i => match evv env x, evv env i with
    | some v, some i => emit (.idx t v i) K
    | _, _ => False
  | .index t x i => match evv env x, evv env i with
    | some v, some i => emit (.ind t v i) K
    | _, _ => False
  | .extract x i => match evv env x with
    | some (.tuple vs) => (match vs.toList[i]? with | some v => K (.v v) L | none => False)
    | _ => False
  | .call { callee := .builtin b, args, argTypes } => match evvs env args.toList with
    | some vs => (match b, vs, argTypes.toList with
      | .len, [.slice _ n _], [t] => (match tk T t with | some { kind := 5, .. } => K (.v (.int .i64 n)) L | _ => False)
      | .len, [.string s], [t] => (match tk T t with | some { kind := 3, .. } => K (.v (.int .i64 s.size)) L | _ => False)
      | _, _, _ => emit (.blt b argTypes.toList o.type (args.toList.map isC) vs) K)
    | none => False
  | .call { callee := .value f, args, .. } => match evv env f, evvs env args.toList with
    | some (.func (.func f) first cap), some vs => emit (.call f (first.toList ++ vs ++ cap.toList)) K
    | some (.func (.yield l) first _), some vs => emit (.yield l (first.toList ++ vs)) K
    | _, _ => False
  | _ => genVC o env emit K


/-- What an operation's condition says: it yields a value in any world, or it runs as an effect does. -/
def Cases (P : Program) (o : Oper) (ρ : Operand → Value) (L : List Assn) (emit : Eff → (SV → List Assn → Prop) → Prop) (K : SV → List Assn → Prop) : Prop :=
  (∃ sv, sv.isD = false ∧ K sv L ∧ ∀ w, (execOp ρ o).run P w = .ok (.value sv.val) w) ∨
  (∃ x, emit x K ∧ ∀ w, (execOp ρ o).run P w = (Eff.next x).run P w)

theorem program_run (P : Program) (w : World) : (program).run P w = .ok P w := rfl
theorem typeInfo_run {P : Program} {t : Nat} {x : TypeInfo} (h : P.info? t = some x) (w : World) : (typeInfo t).run P w = .ok x w := by
  simp [typeInfo, h]
theorem underlying_run {P : Program} {t : Nat} {d : TypeDesc} (h : P.underlying t = some d) (w : World) : (underlying t).run P w = .ok d w := by
  simp [underlying, h]

theorem fieldAt_run {P : Program} {t : Nat} {i : TyI} (h : TyOK P t i) (hk : i.kind = 7) {f k : Nat} (a : Addr) (hf : i.offs[f]? = some k) (w : World) :
    (Instr.fieldAt t (.pointer (some a)) f).run P w = .ok (.pointer (some (a.add k))) w := by
  obtain ⟨d, hd, h1, h2⟩ := h.desc
  cases d with
  | struct fs =>
    obtain ⟨h2, h3, -⟩ := h2
    rw [← h2, List.getElem?_map] at hf
    cases hx : fs.toList[f]? with
    | none => rw [hx] at hf; cases hf
    | some x =>
      rw [hx] at hf
      simp only [Option.map_some, Option.some.injEq] at hf
      have hx' : fs[f]? = some x := by simpa using hx
      have h4 := List.all_eq_true.1 h3 x (List.mem_of_getElem? hx)
      cases hi : P.info? x.type with
      | none => rw [hi] at h4; cases h4
      | some y =>
        rw [hi] at h4
        have h5 : y.size ≠ 0 := by simpa using h4
        subst hf
        simp [Instr.fieldAt, underlying_run hd, hx', Instr.sureAddr, fieldPlace, sizeOf, typeInfo_run hi, h5]
  | _ => simp [kindOf, hk] at h1

theorem kind_int {d : TypeDesc} (h : kindOf d = 1) : ∃ k, d = .int k := by cases d <;> simp [kindOf] at h; exact ⟨_, rfl⟩
theorem kind_bool {d : TypeDesc} (h : kindOf d = 2) : d = .bool := by cases d <;> simp [kindOf] at h; rfl
theorem kind_string {d : TypeDesc} (h : kindOf d = 3) : d = .string := by cases d <;> simp [kindOf] at h; rfl
theorem kind_ptr {d : TypeDesc} (h : kindOf d = 4) : ∃ e, d = .pointer e := by cases d <;> simp [kindOf] at h; exact ⟨_, rfl⟩
theorem kind_slice {d : TypeDesc} (h : kindOf d = 5) : ∃ e, d = .slice e := by cases d <;> simp [kindOf] at h; exact ⟨_, rfl⟩
theorem kind_array {d : TypeDesc} (h : kindOf d = 6) : ∃ n e, d = .array n e := by cases d <;> simp [kindOf] at h; exact ⟨_, _, rfl⟩
theorem kind_struct {d : TypeDesc} (h : kindOf d = 7) : ∃ fs, d = .struct fs := by cases d <;> simp [kindOf] at h; exact ⟨_, rfl⟩


theorem eqGuard_same (op : BinOp) (t : TypeId) (x y : Operand) (a b : Value) : eqGuard op t x y a b = eqGuard op t (opd (isC x) a) (opd (isC y) b) a b := by
  unfold eqGuard
  cases x <;> cases y <;> rfl

def noGuard : Value → Value → Bool
  | .nilIface, .nilIface => false
  | .agg _, .agg _ => false
  | _, _ => true

theorem eqGuard_plain (P : Program) (op : BinOp) (t : TypeId) (x y : Operand) {a b : Value} (h : noGuard a b = true) (w : World) : (eqGuard op t x y a b).run P w = .ok () w := by
  cases op <;> first | rfl | (cases a <;> cases b <;> first | rfl | (simp [noGuard] at h))

theorem bin_run {P : Program} {ρ : Operand → Value} {o : Oper} {op : BinOp} {t t' : TypeId} {x y : Operand} (ho : o.op = .binOp op t x y t') {a b : Value} (ha : ρ x = a) (hb : ρ y = b) (w : World) :
    (execOp ρ o).run P w = (Eff.next (.bin op t (isC x) (isC y) a b)).run P w := by
  subst ha; subst hb
  simp only [execOp, ho, Eff.next]
  rw [eqGuard_same]
  simp

theorem bin_val {P : Program} {ρ : Operand → Value} {o : Oper} {op : BinOp} {t t' : TypeId} {x y : Operand} (ho : o.op = .binOp op t x y t') {a b v : Value} (ha : ρ x = a) (hb : ρ y = b)
    (hg : noGuard a b = true) (w : World) (h : (binOp op t a b).run P w = .ok v w) : (execOp ρ o).run P w = .ok (.value v) w := by
  rw [bin_run ho ha hb]
  simp [Eff.next, eqGuard_plain P op t _ _ hg, h]

theorem fdiv_pow (m : Int) (n : Nat) : m.fdiv (2 ^ n) = m / ((2 ^ n : Nat) : Int) := by
  rw [Int.fdiv_eq_ediv_of_nonneg _ (Int.le_of_lt (Int.pow_pos (by decide)))]
  simp


theorem equal_run {P : Program} {t : TypeId} {x y : Value} {b : Bool} {w : World} (h : (Op.equalIn (9999 + 1) t x y).run P w = .ok b w) : (Op.equal t x y).run P w = .ok b w := h
theorem eql_bool {P : Program} {t : TypeId} (hd : P.underlying t = some .bool) (a b : Bool) (w : World) : (Op.equal t (.bool a) (.bool b)).run P w = .ok (a == b) w :=
  equal_run (by rw [Op.equalIn, Sem.run_bind, underlying_run hd]; rfl)
theorem eql_ptr_none {P : Program} {t e : TypeId} (hd : P.underlying t = some (.pointer e)) (a : Option Addr) (w : World) : (Op.equal t (.pointer a) (.pointer none)).run P w = .ok a.isNone w :=
  equal_run (by rw [Op.equalIn, Sem.run_bind, underlying_run hd]; cases a <;> rfl)
theorem eql_slice_none {P : Program} {t e : TypeId} (hd : P.underlying t = some (.slice e)) (a : Option Addr) (n c n' c' : Nat) (w : World) : (Op.equal t (.slice a n c) (.slice none n' c')).run P w = .ok a.isNone w :=
  equal_run (by rw [Op.equalIn, Sem.run_bind, underlying_run hd]; cases a <;> rfl)
theorem eql_of {P : Program} {t : TypeId} {x y : Value} {b : Bool} {w : World} (h : (Op.equal t x y).run P w = .ok b w) :
    ((do pure (.bool (← Op.equal t x y))) : Sem Value).run P w = .ok (.bool b) w := by simp [h]
theorem neq_of {P : Program} {t : TypeId} {x y : Value} {b : Bool} {w : World} (h : (Op.equal t x y).run P w = .ok b w) :
    ((do pure (.bool (!(← Op.equal t x y)))) : Sem Value).run P w = .ok (.bool !b) w := by simp [h]

theorem binVC_cases {P : Program} {T : Tab} (hT : TabOK P T) {ρ : Operand → Value} {o : Oper} {op : BinOp} {t t' : TypeId} {x y : Operand} (ho : o.op = .binOp op t x y t') {a b : Value} (ha : ρ x = a) (hb : ρ y = b)
    (hy : ∀ k n, y = .const (.int k n) → b = .int k n)
    {i : TyI} (hi : tk T t = some i) {emit : Prop} {K : SV → Prop} (h : binVC op i.kind y a b emit K) :
    (∃ sv, sv.isD = false ∧ K sv ∧ ∀ w, (execOp ρ o).run P w = .ok (.value sv.val) w) ∨ emit := by
  obtain ⟨d, hd, hkd, -⟩ := (hT t i hi).desc
  unfold binVC at h
  split at h
  · rename_i k m k' n
    have pure1 : ∀ v : Value, (∀ w, (binOp op t (.int k m) (.int k' n)).run P w = .ok v w) → ∀ w, (execOp ρ o).run P w = .ok (.value v) w :=
      fun v hv w => bin_val ho ha hb rfl w (hv w)
    have shl : ∀ k'' (s : Nat), y = .const (.int k'' (.ofNat s)) → op = .shl → ∀ w, (binOp op t (.int k m) (.int k' n)).run P w = .ok (.int k (k.wrap (m * ((2 ^ min s k.bits : Nat) : Int)))) w := by
      intro k'' s e e2 w
      have := hy k'' _ e
      simp only [Value.int.injEq] at this
      obtain ⟨rfl, rfl⟩ := this
      subst e2
      have h0 : ¬ ((s : Int) < 0) := by omega
      simp [binOp, Op.shift, h0]
    have shr : ∀ k'' (s : Nat), y = .const (.int k'' (.ofNat s)) → op = .shr → ∀ w, (binOp op t (.int k m) (.int k' n)).run P w = .ok (.int k (m / ((2 ^ min s k.bits : Nat) : Int))) w := by
      intro k'' s e e2 w
      have := hy k'' _ e
      simp only [Value.int.injEq] at this
      obtain ⟨rfl, rfl⟩ := this
      subst e2
      have h0 : ¬ ((s : Int) < 0) := by omega
      have := fdiv_pow m (min s k.bits)
      simp [binOp, Op.shift, h0, this]
    split at h
    · rename_i hk
      subst hk
      split at h
      all_goals first
        | (refine .inl ⟨_, rfl, h.out, pure1 _ fun w => ?_⟩; simp [binOp, Op.intArith]; done)
        | (refine .inl ⟨_, rfl, h, pure1 _ fun w => ?_⟩; simp [binOp, Op.intCmp]; done)
        | (refine .inl ⟨_, rfl, h, pure1 _ fun w => ?_⟩; simp only [binOp, ne_eq, not_true_eq_false, if_false]; rfl)
        | skip
      · split at h
        · exact .inl ⟨_, rfl, h.out, pure1 _ (shl _ _ rfl rfl)⟩
        · exact .inr h
      · split at h
        · exact .inl ⟨_, rfl, h, pure1 _ (shr _ _ rfl rfl)⟩
        · exact .inr h
      · split at h
        · rename_i s
          have := hy _ _ rfl
          simp only [Value.int.injEq] at this
          obtain ⟨rfl, rfl⟩ := this
          have h0 : ¬ ((Int.ofNat (s + 1)) = 0) := by simp; omega
          exact .inl ⟨_, rfl, h.out, pure1 _ fun w => by simp [binOp, Op.intDiv]; intro e; omega⟩
        · exact .inr h
      · split at h
        · rename_i s
          have := hy _ _ rfl
          simp only [Value.int.injEq] at this
          obtain ⟨rfl, rfl⟩ := this
          exact .inl ⟨_, rfl, h, pure1 _ fun w => by simp [binOp, Op.intDiv]; intro e; omega⟩
        · exact .inr h
      · exact .inr h
    · split at h
      · split at h
        · exact .inl ⟨_, rfl, h.out, pure1 _ (shl _ _ rfl rfl)⟩
        · exact .inr h
      · split at h
        · exact .inl ⟨_, rfl, h, pure1 _ (shr _ _ rfl rfl)⟩
        · exact .inr h
      · exact .inr h
  · split at h
    · exact .inl ⟨_, rfl, h, fun w => bin_val ho ha hb rfl w (by simp [binOp, Op.stringOp])⟩
    · exact .inl ⟨_, rfl, h, fun w => bin_val ho ha hb rfl w (by simp [binOp, Op.stringOp])⟩
    · exact .inr h
  · split at h
    · rename_i hk2
      obtain rfl := kind_bool (hkd.trans hk2)
      split at h
      · exact .inl ⟨_, rfl, h, fun w => bin_val ho ha hb rfl w (eql_of (eql_bool hd _ _ w))⟩
      · exact .inl ⟨_, rfl, h, fun w => bin_val ho ha hb rfl w (neq_of (eql_bool hd _ _ w))⟩
      · exact .inr h
    · exact .inr h
  · split at h
    · rename_i hk2
      obtain ⟨e, rfl⟩ := kind_ptr (hkd.trans hk2)
      split at h
      · exact .inl ⟨_, rfl, h, fun w => bin_val ho ha hb rfl w (eql_of (eql_ptr_none hd _ w))⟩
      · exact .inl ⟨_, rfl, h, fun w => bin_val ho ha hb rfl w (neq_of (eql_ptr_none hd _ w))⟩
      · exact .inr h
    · exact .inr h
  · split at h
    · rename_i hk2
      obtain ⟨e, rfl⟩ := kind_ptr (hkd.trans hk2)
      split at h
      · exact .inl ⟨_, rfl, h, fun w => bin_val ho ha hb rfl w (eql_of (eql_ptr_none hd _ w))⟩
      · exact .inl ⟨_, rfl, h, fun w => bin_val ho ha hb rfl w (neq_of (eql_ptr_none hd _ w))⟩
      · exact .inr h
    · exact .inr h
  · split at h
    · rename_i oa _ _ _ _ hk2
      obtain ⟨e, rfl⟩ := kind_slice (hkd.trans hk2)
      split at h
      · exact .inl ⟨_, rfl, h, fun w => bin_val ho ha hb rfl w (eql_of (eql_slice_none hd _ _ _ _ _ w))⟩
      · exact .inl ⟨_, rfl, h, fun w => bin_val ho ha hb rfl w (neq_of (eql_slice_none hd _ _ _ _ _ w))⟩
      · exact .inr h
    · exact .inr h
  · exact .inr h


theorem Cases.pure {P : Program} {o : Oper} {ρ : Operand → Value} {L : List Assn} {emit : Eff → (SV → List Assn → Prop) → Prop} {K : SV → List Assn → Prop} (sv : SV) (hd : sv.isD = false) (h : K sv L)
    (hr : ∀ w, (execOp ρ o).run P w = .ok (.value sv.val) w) : Cases P o ρ L emit K := .inl ⟨sv, hd, h, hr⟩
theorem Cases.eff {P : Program} {o : Oper} {ρ : Operand → Value} {L : List Assn} {emit : Eff → (SV → List Assn → Prop) → Prop} {K : SV → List Assn → Prop} (x : Eff) (h : emit x K)
    (hr : ∀ w, (execOp ρ o).run P w = (Eff.next x).run P w) : Cases P o ρ L emit K := .inr ⟨x, h, hr⟩

theorem arr_map {α β : Type} (f : α → β) (xs : Array α) : xs.map f = (xs.toList.map f).toArray := by apply Array.ext'; simp

theorem newVar_run {P : Program} (t : TypeId) (v : Value) (w : World) : (newVar t v).run P w = (newRow t v.cells).run P w := rfl

theorem opVC_cases {P : Program} {T : Tab} (hT : TabOK P T) {ρ : Operand → Value} {env : Env} (hρ : Agrees ρ env) (o : Oper) {L : List Assn}
    {emit : Eff → (SV → List Assn → Prop) → Prop} {K : SV → List Assn → Prop}  (h : opVC T o env L emit K) : Cases P o ρ L emit K := by
  have gen : genVC o env emit K → Cases P o ρ L emit K := fun h => by
    unfold genVC at h
    split at h
    · exact h.elim
    · rename_i hs
      split at h
      · rename_i vs hv
        refine .eff _ h fun w => ?_
        simp only [Eff.next]
        rw [execOp_congr (ρ := ρ) (ρ' := fun x => (evv env x).getD undef) o hs fun x hx => ?_]
        have hl := hρ.evvs hv
        -- each operand has a value
        have key : ∀ (xs : List Operand) (vs : List Value), evvs env xs = some vs → ∀ x ∈ xs, ρ x = (evv env x).getD undef := by
          intro xs
          induction xs with
          | nil => intro _ _ x m; cases m
          | cons y ys ih =>
            intro vs e x m
            unfold evvs at e
            split at e
            · rename_i v hv
              split at e
              · rename_i ws hw
                cases m with
                | head => rw [hv]; exact hρ.evv hv
                | tail _ m => exact ih _ hw x m
              · cases e
            · cases e
        exact key _ _ hv x (by simpa using hx)
      · exact h.elim
  unfold opVC at h
  split at h
  · -- move
    rename_i x ho
    split at h
    · exact h.elim
    · rename_i v hn hv
      have hd : v.isD = false := by cases v <;> first | rfl | (rename_i ds; exact (hn ds rfl).elim)
      exact .pure v hd h fun w => by simp [execOp, ho, hρ x v hv hd]
    · exact h.elim
  · rename_i x ho
    split at h
    · exact h.elim
    · rename_i v hn hv
      have hd : v.isD = false := by cases v <;> first | rfl | (rename_i ds; exact (hn ds rfl).elim)
      exact .pure v hd h fun w => by simp [execOp, ho, hρ x v hv hd]
    · exact h.elim
  · -- pick
    rename_i c a b ho
    split at h
    · rename_i hc
      have hc' := hρ c _ hc rfl
      split at h
      · exact h.elim
      · rename_i v hn hv
        have hd : v.isD = false := by cases v <;> first | rfl | (rename_i ds; exact (hn ds rfl).elim)
        exact .pure v hd h fun w => by simp [execOp, ho, hc', hρ a v hv hd, asBool]
      · exact h.elim
    · rename_i hc
      have hc' := hρ c _ hc rfl
      split at h
      · exact h.elim
      · rename_i v hn hv
        have hd : v.isD = false := by cases v <;> first | rfl | (rename_i ds; exact (hn ds rfl).elim)
        exact .pure v hd h fun w => by simp [execOp, ho, hc', hρ b v hv hd, asBool]
      · exact h.elim
    · rename_i q hc
      have hc' := hρ c _ hc rfl
      have h := h.both
      cases q with
      | true =>
        simp only at h
        split at h
        · rename_i v hv
          exact .pure (.v v) rfl h fun w => by simp [execOp, ho, hc', hρ.evv hv, asBool]
        · exact h.elim
      | false =>
        simp only at h
        split at h
        · rename_i v hv
          exact .pure (.v v) rfl h fun w => by simp [execOp, ho, hc', hρ.evv hv, asBool]
        · exact h.elim
    · exact h.elim
  · -- alloc
    rename_i t ho
    split at h
    · rename_i k sz by_ el of szs zero hi
      obtain ⟨x, hx, -, -, hz⟩ := (hT t _ hi).info
      cases hxz : x.zero with
      | none => rw [hxz] at hz; cases hz
      | some z =>
        rw [hxz] at hz
        simp only [Option.map_some, Option.some.injEq] at hz
        exact .eff _ h fun w => by
          simp [execOp, ho, Eff.next, Instr.alloc, zeroValue, typeInfo_run hx, hxz, newVar_run, hz]
    · exact h.elim
  · -- box
    rename_i t x ho
    split at h
    · rename_i cs hv
      exact .eff _ h fun w => by simp [execOp, ho, Eff.next, Instr.box, hρ.evv hv, newVar_run, Value.cells]
    · rename_i v hn hv
      refine .eff _ h fun w => ?_
      have : v.cells = #[v] := by cases v <;> first | rfl | (rename_i cs; exact (hn cs rfl).elim)
      simp [execOp, ho, Eff.next, Instr.box, hρ.evv hv, newVar_run, this]
    · exact h.elim
  · -- build
    rename_i t ps ho
    split at h
    · rename_i vs hv
      have := hρ.evp hv
      exact .eff _ h fun w => by
        have e : ps.map (fun (i, x) => (i, ρ x)) = vs.toArray := (arr_map _ _).trans (congrArg List.toArray this)
        simp only [execOp, ho, Eff.next, e]
    · exact h.elim
  · -- buildSlice
    rename_i t n ps ho
    split at h
    · rename_i vs hv
      have := hρ.evp hv
      exact .eff _ h fun w => by
        have e : ps.map (fun (i, x) => (i, ρ x)) = vs.toArray := (arr_map _ _).trans (congrArg List.toArray this)
        simp only [execOp, ho, Eff.next, e]
    · exact h.elim
  · -- load
    rename_i t p ho
    split at h
    · rename_i a hp
      exact .eff _ h fun w => by simp only [execOp, ho, Eff.next, hρ.evv hp]
    · exact h.elim
  · -- store
    rename_i t p x ho
    split at h
    · rename_i a v hp hx
      exact .eff _ h fun w => by simp only [execOp, ho, Eff.next, hρ.evv hp, hρ.evv hx]
    · exact h.elim
  · -- nilCheck
    rename_i x ho
    split at h
    · rename_i a hp
      exact .pure _ rfl h fun w => by simp [execOp, ho, hρ.evv hp]
    · exact gen h
  · -- binOp
    rename_i op t x y t' ho
    split at h
    · rename_i v w' k sz by_ el of szs z hx hy hi
      have := binVC_cases hT ho (hρ.evv hx) (hρ.evv hy) (fun k n e => by
        subst e
        simp only [evv, ev, svOf, Option.some.injEq] at hy
        exact hy.symm) hi h
      rcases this with ⟨sv, hd, hk, hr⟩ | he
      · exact .pure sv hd hk hr
      · exact .eff _ he (bin_run ho (hρ.evv hx) (hρ.evv hy))
    · exact h.elim
  · -- not
    rename_i t x ho
    split at h
    · rename_i hx
      exact .pure _ rfl h fun w => by simp [execOp, ho, hρ x _ hx rfl, Op.unary]
    · rename_i hx
      exact .pure _ rfl h fun w => by simp [execOp, ho, hρ x _ hx rfl, Op.unary]
    · rename_i b hx
      exact .pure _ rfl h fun w => by simp [execOp, ho, hρ x _ hx rfl, Op.unary]
    · exact h.elim
  · -- convert
    rename_i s d x ho
    split at h
    · rename_i k n i2 sz by_ el of szs k' z hx hs hi
      obtain ⟨dd, hd, h1, h2⟩ := (hT d _ hi).desc
      obtain ⟨kk, rfl⟩ := kind_int h1
      obtain ⟨n', h2⟩ := h2
      simp only [List.cons.injEq, and_true, Value.int.injEq] at h2
      obtain ⟨rfl, -⟩ := h2
      obtain ⟨ds, hds, -⟩ := (hT s _ hs).desc
      exact .pure _ rfl h.out fun w => by
        simp [execOp, ho, hρ.evv hx, convert, underlying_run hd, underlying_run hds, Conv.intToInt]
    · rename_i v hx _
      exact .eff _ h fun w => by simp only [execOp, ho, Eff.next, hρ.evv hx]
    · exact h.elim
  · -- makeFunc
    rename_i fn first cap ho
    split at h
    · rename_i f c hf hc
      have e1 := hρ.evvs hf
      have e2 := hρ.evvs hc
      exact .pure _ rfl h fun w => by
        have e1 : first.map ρ = f.toArray := by rw [arr_map, e1]
        have e2 : cap.map ρ = c.toArray := by rw [arr_map, e2]
        simp [execOp, ho, Instr.makeFunc, e1, e2]
    · exact h.elim
  · -- makeSlice
    rename_i t n c ho
    split at h
    · rename_i v w' hn hc
      exact .eff _ h fun w => by simp only [execOp, ho, Eff.next, hρ.evv hn, hρ.evv hc]
    · exact h.elim
  · -- slice
    rename_i t x lo hi mx ho
    split at h
    · rename_i v l h' m hx hlo hhi hmx
      exact .eff _ h fun w => by simp only [execOp, ho, Eff.next, hρ.evv hx, hρ.evo hlo, hρ.evo hhi, hρ.evo hmx]
    · exact h.elim
  · -- fieldAddr
    rename_i s x f ho
    split at h
    · rename_i a sz by_ el offs szs z hx hi
      split at h
      · rename_i k hk
        exact .pure _ rfl h fun w => by simp [execOp, ho, hρ.evv hx, fieldAt_run (hT s _ hi) rfl a hk w, plus_eq]
      · exact h.elim
    · exact gen h
    · exact h.elim
  · -- field
    rename_i t x f ho
    split at h
    · rename_i v hx
      exact .eff _ h fun w => by simp only [execOp, ho, Eff.next, hρ.evv hx]
    · exact h.elim
  · rename_i t x i ho
    split at h
    · rename_i v w' hx hi
      exact .eff _ h fun w => by simp only [execOp, ho, Eff.next, hρ.evv hx, hρ.evv hi]
    · exact h.elim
  · rename_i t x i ho
    split at h
    · rename_i v w' hx hi
      exact .eff _ h fun w => by simp only [execOp, ho, Eff.next, hρ.evv hx, hρ.evv hi]
    · exact h.elim
  · -- extract
    rename_i x i ho
    split at h
    · rename_i vs hx
      split at h
      · rename_i v hv
        have hv' : vs[i]? = some v := by rw [← Array.getElem?_toList]; exact hv
        exact .pure _ rfl h fun w => by simp [execOp, ho, hρ.evv hx, Instr.extract, hv']
      · exact h.elim
    · exact h.elim
  · -- builtin
    rename_i b args tys ho
    split at h
    · rename_i vs hv
      have e := hρ.evvs hv
      have e1 : args.map ρ = vs.toArray := by rw [arr_map, e]
      split at h
      · rename_i a n c t ht
        split at h
        · rename_i sz by_ el of szs z hi
          obtain ⟨dd, hd, h1, h2⟩ := (hT t _ hi).desc
          obtain ⟨el', rfl⟩ := kind_slice h1
          have ht' : tys = #[t] := by rw [← Array.toArray_toList (xs := tys), ht]
          exact .pure _ rfl h fun w => by
            simp [execOp, ho, resolve, e1, invoke, builtin, Builtin.len_, ht', underlying_run hd, goInt]
        · exact h.elim
      · rename_i s t ht
        split at h
        · rename_i sz by_ el of szs z hi
          obtain ⟨dd, hd, h1, h2⟩ := (hT t _ hi).desc
          obtain rfl := kind_string h1
          have ht' : tys = #[t] := by rw [← Array.toArray_toList (xs := tys), ht]
          exact .pure _ rfl h fun w => by
            simp [execOp, ho, resolve, e1, invoke, builtin, Builtin.len_, ht', underlying_run hd, goInt]
        · exact h.elim
      · refine .eff _ h fun w => ?_
        have e3 : args.map (fun | .const _ => true | _ => false) = (args.toList.map isC).toArray := arr_map _ _
        simp only [execOp, ho, resolve, Sem.run_bind, Sem.run_pure, Result.andThen_ok, invoke, Eff.next, e1, Array.toArray_toList]
        exact congrArg (fun z => (builtin _ tys o.type z _).run P w) e3
    · exact h.elim
  · -- call
    rename_i f args tys ho
    split at h
    · rename_i g first cap vs hf hv
      have e := hρ.evvs hv
      have e1 : args.map ρ = vs.toArray := by rw [arr_map, e]
      exact .eff _ h fun w => by
        simp [execOp, ho, resolve, hρ.evv hf, Deferred.ofValue, invoke, Eff.next, e1]
        congr 2
        simp
    · rename_i l first cap vs hf hv
      have e := hρ.evvs hv
      have e1 : args.map ρ = vs.toArray := by rw [arr_map, e]
      exact .eff _ h fun w => by
        simp [execOp, ho, resolve, hρ.evv hf, Deferred.ofValue, invoke, Eff.next, e1]
        congr 2
        simp
    · exact h.elim
  · exact gen h


def VCres (P : Program) (R : Rest) (K : Ending → List Assn → Prop) : Result Next → Prop
  | .ok (.value v) w => ∃ L, Own w L R ∧ K (.returned v) L
  | .ok .skip w => ∃ L, Own w L R ∧ K (.returned undef) L
  | .ok (.enter f args) w => Calls P f args w fun e w' => ∃ L, Own w' L R ∧ K e L
  | .ok (.row row args) w => Rows P row args w fun v w' => ∃ L, Own w' L R ∧ K (.returned v) L
  | .ok (.round l f tmps assign body) w => RoundIn Fence.wide 0 P l f tmps assign body w fun e w' => ∃ L, Own w' L R ∧ K e L
  | .halt (.panic v) w => ∃ L, Own w L R ∧ K (.panicked [{ v, recovered := false }]) L
  | _ => False

/-- An effect, from what is owned: what comes of it, and what is owned then. -/
structure VC (P : Program) (x : Eff) (L : List Assn) (K : Ending → List Assn → Prop) : Prop where
  out : ∀ w R, Own w L R → VCres P R K (x.next.run P w)

def goOn (env : Env) (X : Exit → Env → List Assn → Prop) (K : SV → List Assn → Prop) : Ending → List Assn → Prop
  | .returned v, L => K (.v v) L
  | .panicked ch, L => X (.panic ch) env L
  | .outgrown, _ => False

def guardVC (ops : Array Oper) (g : Option (Nat × Bool)) (env : Env) (run skip : Env → Prop) : Prop :=
  match g with
  | none => run env
  | some (j, want) => match ops[j]? with
    | some { dst := some s, .. } => match lk env s with
      | some .t => bif want then run env else skip env
      | some .f => bif want then skip env else run env
      | some .u => skip env
      | some (.v (.bool b)) => Br b (fun t => match t with
        | true => bif want then run ((s, .t) :: env) else skip ((s, .t) :: env)
        | false => bif want then skip ((s, .f) :: env) else run ((s, .f) :: env)) False
      | _ => False
    | _ => False

def putVC (n : Nat) (d : Option Nat) (v : SV) (env : Env) (K : Env → Prop) : Prop :=
  match d with
  | none => K env
  | some d => bif Nat.blt d n then K ((d, v) :: env) else False

noncomputable def opsVC (P : Program) (T : Tab) (n : Nat) (ops : Array Oper) (os : List Oper) : Env → List Assn → (Exit → Env → List Assn → Prop) → Prop :=
  List.rec (motive := fun _ => Env → List Assn → (Exit → Env → List Assn → Prop) → Prop)
    (fun env L X => X .normal env L)
    (fun o _ ih env L X => guardVC ops o.guard env
      (fun env => match o.op with
        | .defer _ => False
        | _ => opVC T o env L (fun x K => VC P x L (goOn env X K)) fun v L => putVC n o.dst v env fun env => ih env L X)
      (fun env => putVC n o.dst .u env fun env => ih env L X)) os
theorem opsVC_nil (P : Program) (T : Tab) (n : Nat) (ops : Array Oper) (env : Env) (L : List Assn) (X : Exit → Env → List Assn → Prop) : opsVC P T n ops [] env L X = X .normal env L := rfl
theorem opsVC_cons (P : Program) (T : Tab) (n : Nat) (ops : Array Oper) (o : Oper) (os : List Oper) (env : Env) (L : List Assn) (X : Exit → Env → List Assn → Prop) : opsVC P T n ops (o :: os) env L X = guardVC ops o.guard env
      (fun env => match o.op with
        | .defer _ => False
        | _ => opVC T o env L (fun x K => VC P x L (goOn env X K)) fun v L => putVC n o.dst v env fun env => opsVC P T n ops os env L X)
      (fun env => putVC n o.dst .u env fun env => opsVC P T n ops os env L X) := rfl

/-- A frame of a function, or of a round of a loop over a function. -/
def wideR (ro : Option Nat) : Fence := { Fence.wide with round := ro }

def marks (ms : List Nat) : List Assn := ms.map fun D => obj D (.deferred (some []))

/-- What stands: the slots, what is owned; beside it the marks of loops over functions; in a round, that loop's record. -/
def Good (ro : Option Nat) (R : Rest) (n : Nat) (env : Env) (L : List Assn) (a : Act) (w : World) : Prop :=
  ∃ ms R1, Fr a n env ms ∧ Own w L R1 ∧ (∀ w' L', Own w' L' R1 → Own w' (L' ++ marks ms) R) ∧ ∀ l, ro = some l → ms = [] ∧ ∃ r, R1.pv l = some (.loop r)

def XP (ro : Option Nat) (R : Rest) (n : Nat) (X : Exit → Env → List Assn → Prop) (e : Exit) (a : Act) (w : World) : Prop := ∃ env L, Good ro R n env L a w ∧ X e env L
/-- The same, marks and rest told. -/
def XP1 (ms : List Nat) (R : Rest) (n : Nat) (X : Exit → Env → List Assn → Prop) (e : Exit) (a : Act) (w : World) : Prop := ∃ env L, Fr a n env ms ∧ Own w L R ∧ X e env L

/-- Code that is met by a law of its own. -/
structure CodeVC (P : Program) (T : Tab) (n : Nat) (c : Code) (env : Env) (L : List Assn) (X : Exit → Env → List Assn → Prop) : Prop where
  out : ∀ ro R a w, Good ro R n env L a w → c.wpIn (wideR ro) 0 P (XP ro R n X) a w

noncomputable def vc (P : Program) (T : Tab) (n : Nat) (c : Code) : Env → List Assn → (Exit → Env → List Assn → Prop) → Prop :=
  Code.rec (motive := fun _ => Env → List Assn → (Exit → Env → List Assn → Prop) → Prop)
    (skip := fun env L X => X .normal env L)
    (region := fun id ops dr env L X => match dr with
      | false => opsVC P T n ops ops.toList env L X
      | true => CodeVC P T n (.region id ops true) env L X)
    (seq := fun _ _ iha ihb env L X => iha env L fun e env L => match e with
      | .normal => ihb env L X
      | e => X e env L)
    (cond := fun c a b iha ihb env L X => match ev env c with
      | some .t => iha env L X
      | some .f => ihb env L X
      | some (.v (.bool x)) => Br x (fun t => match t with
        | true => iha env L X
        | false => ihb env L X) (CodeVC P T n (bif x then a else b) env L X)
      | _ => False)
    (loop := fun b _ env L X => CodeVC P T n (.loop b) env L X)
    (rangeFunc := fun f p x b _ _ env L X => CodeVC P T n (.rangeFunc f p x b) env L X)
    (block := fun id _ ih env L X => ih env L fun e env L => match e with
      | .exit id' => bif Nat.beq id' id then X .normal env L else X (.exit id') env L
      | e => X e env L)
    (exit := fun id env L X => X (.exit id) env L)
    (scope := fun b _ env L X => CodeVC P T n (.scope b) env L X)
    (label := fun _ env L X => X .normal env L)
    (goto := fun l env L X => CodeVC P T n (.goto l) env L X)
    (ret := fun env L X => X .ret env L)
    (refuse := fun y env L X => CodeVC P T n (.refuse y) env L X) c


theorem fenced_wideR {P : Program} {ro : Option Nat} : Machine.fenced P (wideR ro) = Machine.fenced P Fence.wide := rfl
theorem callsIn_wideR {ro : Option Nat} {n : Nat} {P : Program} {f : FuncId} {args : Array Value} {w : World} {R : Ending → World → Prop} : CallsIn (wideR ro) n P f args w R ↔ Calls P f args w R :=
  callsIn_wide (n := n)
theorem rowsIn_of {ro : Option Nat} {P : Program} {row : String} {args : Array Value} {w : World} {R : Value → World → Prop} (h : Rows P row args w R) : RowsIn (wideR ro) 0 P row args w R :=
  fun c cs _ => let ⟨v, w', r, s⟩ := h c cs; ⟨v, w', r, stepsIn_wide.2 s⟩

theorem Fr.put {a : Act} {n : Nat} {env : Env} {ms : List Nat} (h : Fr a n env ms) {d : Nat} (hd : d < n) (v : SV) (x : Value) (hx : v.isD = false → x = v.val) : Fr (a.put (some d) x) n ((d, v) :: env) ms := by
  refine ⟨by simp [Act.put, h.size], h.le, ?_, h.defs⟩
  intro i y hu hud
  unfold lk at hu
  cases hb : Nat.beq d i with
  | true =>
    simp only [hb, cond_true, Option.some.injEq] at hu
    have := Nat.eq_of_beq_eq_true hb
    subst this; subst hu
    have : d < a.tmps.size := by rw [h.size]; exact hd
    simp [Act.put, this, hx hud]
  | false =>
    simp only [hb, cond_false] at hu
    have hdi : d ≠ i := by rintro rfl; simp at hb
    simp [Act.put, Array.getElem?_setIfInBounds_ne hdi, h.get i y hu hud]

theorem Fr.know {a : Act} {n : Nat} {env : Env} {ms : List Nat} (h : Fr a n env ms) {s : Nat} {y v : SV} (hs : lk env s = some y) (hu : y.isD = false) (_ : v.isD = false) (e : y.val = v.val) : Fr a n ((s, v) :: env) ms := by
  refine ⟨h.size, h.le, ?_, h.defs⟩
  intro i x hx hxd
  unfold lk at hx
  cases hb : Nat.beq s i with
  | true =>
    simp only [hb, cond_true, Option.some.injEq] at hx
    have := Nat.eq_of_beq_eq_true hb
    subst this; subst hx
    rw [← e]; exact h.get _ _ hs hu
  | false =>
    simp only [hb, cond_false] at hx
    exact h.get i x hx hxd

theorem putVC_sound {n : Nat} {d : Option Nat} {v : SV} {env : Env} {K : Env → Prop} (h : putVC n d v env K) {a : Act} {ms : List Nat} (hf : Fr a n env ms) (x : Value) (hx : v.isD = false → x = v.val) :
    ∃ env', Fr (a.put d x) n env' ms ∧ K env' := by
  unfold putVC at h
  cases d with
  | none => exact ⟨env, hf, h⟩
  | some d =>
    cases hb : Nat.blt d n with
    | true =>
      simp only [hb, cond_true] at h
      exact ⟨_, hf.put (by simpa using hb) v x hx, h⟩
    | false => simp only [hb, cond_false] at h

theorem guardVC_sound {ops : Array Oper} {o : Oper} {env : Env} {run skip : Env → Prop} (h : guardVC ops o.guard env run skip) {a : Act} {n : Nat} {ms : List Nat} (hf : Fr a n env ms) :
    ∃ env', Fr a n env' ms ∧ ((Region.wanted o (yielded ops a.tmps) = true ∧ run env') ∨ (Region.wanted o (yielded ops a.tmps) = false ∧ skip env')) := by
  unfold guardVC at h
  cases hg : o.guard with
  | none => rw [hg] at h; exact ⟨env, hf, .inl ⟨by simp [Region.wanted, hg], h⟩⟩
  | some g =>
    obtain ⟨j, want⟩ := g
    rw [hg] at h
    simp only at h
    have hw : Region.wanted o (yielded ops a.tmps) = (yielded ops a.tmps j == some want) := by simp [Region.wanted, hg]
    rw [hw]
    split at h
    · rename_i p _ _ _ _ _ hj
      have hy : ∀ x, a.tmps[p]? = some x → yielded ops a.tmps j = (match x with | .bool b => some b | _ => none) := by
        intro x hx
        unfold yielded
        simp only [hj, Option.bind_some, hx]
        cases x <;> rfl
      split at h
      · rename_i hl
        have := hy _ (hf.get _ _ hl rfl)
        simp only [SV.val_t] at this
        rw [this]
        cases want
        · exact ⟨env, hf, .inr ⟨rfl, h⟩⟩
        · exact ⟨env, hf, .inl ⟨rfl, h⟩⟩
      · rename_i hl
        have := hy _ (hf.get _ _ hl rfl)
        simp only [SV.val_f] at this
        rw [this]
        cases want
        · exact ⟨env, hf, .inl ⟨rfl, h⟩⟩
        · exact ⟨env, hf, .inr ⟨rfl, h⟩⟩
      · rename_i hl
        have := hy _ (hf.get _ _ hl rfl)
        simp only [SV.val_u, undef] at this
        rw [this]
        exact ⟨env, hf, .inr ⟨by simp, h⟩⟩
      · rename_i b hl
        have := hy _ (hf.get _ _ hl rfl)
        simp only [SV.val_v] at this
        rw [this]
        have h := h.both
        cases b
        · cases want
          · exact ⟨_, hf.know hl rfl rfl (v := .f) rfl, .inl ⟨rfl, h⟩⟩
          · exact ⟨_, hf.know hl rfl rfl (v := .f) rfl, .inr ⟨rfl, h⟩⟩
        · cases want
          · exact ⟨_, hf.know hl rfl rfl (v := .t) rfl, .inr ⟨rfl, h⟩⟩
          · exact ⟨_, hf.know hl rfl rfl (v := .t) rfl, .inl ⟨rfl, h⟩⟩
      · exact h.elim
    · exact h.elim


theorem VC_wpIn {P : Program} {o : Oper} {a : Act} {x : Eff} {L : List Assn} {n : Nat} {R : Rest} {env : Env} {ms : List Nat} {ro : Option Nat} {X : Exit → Env → List Assn → Prop} {K : SV → List Assn → Prop} {next : Act → World → Prop} {w : World}
    (h : VC P x L (goOn env X K)) (hnd : ∀ c, o.op ≠ .defer c) (hr : (execOp a.eval o).run P w = x.next.run P w) (hf : Fr a n env ms) (hw : Own w L R)
    (hn : ∀ (sv : SV) (w' : World) (L' : List Assn), sv.isD = false → Own w' L' R → K sv L' → next (a.put o.dst sv.val) w') : o.wpIn (wideR ro) 0 P a w next (XP1 ms R n X) := by
  have := h.out w R hw
  refine ⟨fun _ _ => trivial, ?_⟩
  rw [Oper.semAt_eq _ _ _ hnd, hr]
  generalize x.next.run P w = r at *
  cases r with
  | ok nx w' =>
    cases nx with
    | value v => obtain ⟨L', o', k⟩ := this; exact hn _ _ _ rfl o' k
    | skip => obtain ⟨L', o', k⟩ := this; exact hn _ _ _ rfl o' k
    | enter f args =>
      refine ⟨fun h => (by cases h), callsIn_wideR.2 (Calls.mono this ?_)⟩
      rintro e w'' ⟨L', o', k⟩
      cases e with
      | returned v => exact hn (.v v) _ _ rfl o' k
      | panicked ch => exact ⟨env, L', hf, o', k⟩
      | outgrown => exact k.elim
    | row row args => exact ⟨(fun h => by cases h), rowsIn_of (Rows.mono this fun v w'' ⟨L', o', k⟩ => hn (.v v) _ _ rfl o' k)⟩
    | round l f tmps assign body =>
      refine ⟨fun h => (by cases h), ?_⟩
      have hm := RoundIn.mono (R' := fun e w'' => match e with
        | .returned v => next (a.put o.dst v) w''
        | .panicked chain => XP1 ms R n X (.panic chain) a w''
        | .outgrown => LetsOut (XP1 ms R n X)) this (by
        rintro e w'' ⟨L', o', k⟩
        cases e with
        | returned v => exact hn (.v v) _ _ rfl o' k
        | panicked ch => exact ⟨env, L', hf, o', k⟩
        | outgrown => exact k.elim)
      exact hm.mono fun e w'' q => by cases e <;> exact q
    | _ => exact this.elim
  | halt hh w' =>
    cases hh with
    | panic v => obtain ⟨L', o', k⟩ := this; exact ⟨env, L', hf, o', k⟩
    | _ => exact this.elim

theorem opsVC_sound {P : Program} {T : Tab} (hT : TabOK P T) {n : Nat} {ops : Array Oper} {X : Exit → Env → List Assn → Prop} {R : Rest} {ms : List Nat} {ro : Option Nat} :
    ∀ (os : List Oper) (env : Env) (L : List Assn), opsVC P T n ops os env L X → ∀ a w, Fr a n env ms → Own w L R → wpListIn (wideR ro) 0 P ops (XP1 ms R n X) os a w
  | [], env, L, h, a, w, hf, hw => ⟨env, L, hf, hw, h⟩
  | o :: os, env, L, h, a, w, hf, hw => by
    rw [opsVC_cons] at h
    obtain ⟨env, hf, h | h⟩ := guardVC_sound h hf
    · obtain ⟨hwant, h⟩ := h
      unfold wpListIn
      rw [if_pos hwant]
      split at h
      · exact h.elim
      · rename_i hnd
        rcases opVC_cases (P := P) hT hf.agrees o h with ⟨sv, hd, hk, hr⟩ | ⟨x, hx, hr⟩
        · refine ⟨fun _ _ => trivial, ?_⟩
          rw [Oper.semAt_eq _ _ _ hnd, hr]
          simp only [Oper.uponIn]
          obtain ⟨env', hf', h⟩ := putVC_sound hk hf sv.val (fun _ => rfl)
          exact opsVC_sound hT os _ _ h _ _ hf' hw
        · refine VC_wpIn hx hnd (hr w) hf hw ?_
          intro sv w' L' _ o' k
          obtain ⟨env', hf', h⟩ := putVC_sound k hf sv.val (fun _ => rfl)
          exact opsVC_sound hT os _ _ h _ _ hf' o'
    · obtain ⟨hwant, h⟩ := h
      unfold wpListIn
      rw [if_neg (by simp [hwant])]
      obtain ⟨env', hf', h⟩ := putVC_sound h hf undef (fun _ => rfl)
      exact ⟨fun _ _ => trivial, opsVC_sound hT os _ _ h _ _ hf' hw⟩

theorem vc_sound {P : Program} {T : Tab} (hT : TabOK P T) {n : Nat} {ro : Option Nat} {R : Rest} : ∀ (c : Code) (X : Exit → Env → List Assn → Prop) (env : Env) (L : List Assn), vc P T n c env L X →
    ∀ a w, Good ro R n env L a w → c.wpIn (wideR ro) 0 P (XP ro R n X) a w := by
  intro c
  induction c with
  | skip => intro X env L h a w hg; exact wpIn_skip ⟨env, L, hg, h⟩
  | region id ops dr =>
    intro X env L h a w hg
    cases dr with
    | false =>
      obtain ⟨ms, R1, hf, hw, hl, hro⟩ := hg
      refine wpIn_mono (wpIn_region_list (opsVC_sound hT _ _ _ h a w hf hw)) ?_
      rintro e a' w' ⟨env', L', hf', hw', h'⟩
      exact ⟨env', L', ⟨ms, R1, hf', hw', hl, hro⟩, h'⟩
    | true => exact CodeVC.out h ro R a w hg
  | seq x y ihx ihy =>
    intro X env L h a w hg
    refine wpIn_seq (wpIn_mono (ihx _ _ _ (show vc P T n x env L fun e env L => match e with
      | .normal => vc P T n y env L X
      | e => X e env L from h) a w hg) ?_)
    rintro e a' w' ⟨env', L', hg', h'⟩
    cases e with
    | normal => exact ihy _ _ _ h' a' w' hg'
    | _ => exact ⟨env', L', hg', h'⟩
  | cond c x y ihx ihy =>
    intro X env L h a w hg
    change (match ev env c with
    | some .t => vc P T n x env L X
    | some .f => vc P T n y env L X
    | some (.v (.bool z)) => Br z (fun t => match t with
      | true => vc P T n x env L X
      | false => vc P T n y env L X) (CodeVC P T n (bif z then x else y) env L X)
    | _ => False) at h
    have ag : Agrees a.eval env := by obtain ⟨ms, R1, hf, -⟩ := hg; exact hf.agrees
    split at h
    · rename_i hc
      exact wpIn_cond_true (by simpa using ag c _ hc rfl) (ihx _ _ _ h a w hg)
    · rename_i hc
      exact wpIn_cond_false (by simpa using ag c _ hc rfl) (ihy _ _ _ h a w hg)
    · rename_i b hc
      have hcv : a.eval c = .bool b := by simpa using ag c _ hc rfl
      rcases h.out with h | h
      · cases b with
        | true => exact wpIn_cond_true hcv (ihx _ _ _ h a w hg)
        | false => exact wpIn_cond_false hcv (ihy _ _ _ h a w hg)
      · cases b with
        | true => exact wpIn_cond_true hcv (h.out ro R a w hg)
        | false => exact wpIn_cond_false hcv (h.out ro R a w hg)
    · exact h.elim
  | block id b ih =>
    intro X env L h a w hg
    refine wpIn_block (wpIn_mono (ih _ _ _ (show vc P T n b env L fun e env L => match e with
    | .exit id' => bif Nat.beq id' id then X .normal env L else X (.exit id') env L
    | e => X e env L from h) a w hg) ?_)
    rintro e a' w' ⟨env', L', hg', h'⟩
    cases e with
    | exit id' =>
      simp only [Exit.inBlock]
      cases hb : Nat.beq id' id with
      | true =>
        rw [if_pos (Nat.eq_of_beq_eq_true hb)]
        simp only [hb, cond_true] at h'
        exact ⟨env', L', hg', h'⟩
      | false =>
        rw [if_neg (by rintro rfl; simp at hb)]
        simp only [hb, cond_false] at h'
        exact ⟨env', L', hg', h'⟩
    | _ => exact ⟨env', L', hg', h'⟩
  | loop b ih => intro X env L h a w hg; exact CodeVC.out h ro R a w hg
  | rangeFunc f p x b iha ihb => intro X env L h a w hg; exact CodeVC.out h ro R a w hg
  | exit id => intro X env L h a w hg; exact wpIn_exit ⟨env, L, hg, h⟩
  | scope b ih => intro X env L h a w hg; exact CodeVC.out h ro R a w hg
  | label l => intro X env L h a w hg; exact wpIn_label ⟨env, L, hg, h⟩
  | goto l => intro X env L h a w hg; exact CodeVC.out h ro R a w hg
  | ret => intro X env L h a w hg; exact wpIn_ret ⟨env, L, hg, h⟩
  | refuse y => intro X env L h a w hg; exact CodeVC.out h ro R a w hg

/-- A variable that is read at the end of a function. -/
structure RdVC (P : Program) (t : TypeId) (a : Addr) (L : List Assn) (K : Value → Prop) : Prop where
  out : ∀ w R, Own w L R → ∃ v, (loadVar t a).run P w = .ok v w ∧ K v

/-- The end of a function: what it hands back, what is owned. -/
structure RetVC (v : Value) (L : List Assn) (Q : Ending → List Assn → Prop) : Prop where
  out : ∀ w R, Own w L R → ∃ L', Own w L' R ∧ Q (.returned v) L'

def resVC (P : Program) : List ResultVar → Env → List Assn → (List Value → Prop) → Prop
  | [], _, _, K => K []
  | .tmp t :: rs, env, L, K => match evv env (.tmp t) with
    | some v => resVC P rs env L fun vs => K (v :: vs)
    | none => False
  | .cell p t :: rs, env, L, K => match evv env (.tmp p) with
    | some (.pointer (some a)) => RdVC P t a L fun v => resVC P rs env L fun vs => K (v :: vs)
    | _ => False

def readRes (tmps : Array Value) : ResultVar → Sem Value
  | .tmp t => pure (tmps.getD t undef)
  | .cell p t => do loadVar t (← asAddr (tmps.getD p undef))

theorem resVC_sound {P : Program} : ∀ {rs : List ResultVar} {env : Env} {L : List Assn} {K : List Value → Prop}, resVC P rs env L K → ∀ {a : Act} {n : Nat} {ms : List Nat} {w : World} {R : Rest}, Fr a n env ms → Own w L R →
    ∃ vs, K vs ∧ (rs.mapM (readRes a.tmps)).run P w = .ok vs w
  | [], env, L, K, h, a, n, ms, w, R, hf, hw => ⟨[], h, rfl⟩
  | .tmp t :: rs, env, L, K, h, a, n, ms, w, R, hf, hw => by
    unfold resVC at h
    split at h
    · rename_i v hv
      obtain ⟨vs, hq, hr⟩ := resVC_sound h hf hw
      refine ⟨_, hq, ?_⟩
      have e := hf.agrees.evv hv
      simp only [Act.eval] at e
      simp only [List.mapM_cons, Sem.run_bind, readRes, Sem.run_pure, Result.andThen_ok, e, hr]
    · exact h.elim
  | .cell p t :: rs, env, L, K, h, a, n, ms, w, R, hf, hw => by
    unfold resVC at h
    split at h
    · rename_i x hv
      obtain ⟨v, hv2, h⟩ := h.out w R hw
      obtain ⟨vs, hq, hr⟩ := resVC_sound h hf hw
      refine ⟨_, hq, ?_⟩
      have e := hf.agrees.evv hv
      simp only [Act.eval] at e
      simp only [List.mapM_cons, Sem.run_bind, readRes, Sem.run_pure, Result.andThen_ok, e, asAddr, hv2, hr]
    · exact h.elim

def resOf : List Value → Value
  | [v] => v
  | vs => .tuple vs.toArray

theorem results_run {P : Program} {fn : Func} {tmps : Array Value} {w : World} {vs : List Value} (h : (fn.results.toList.mapM (readRes tmps)).run P w = .ok vs w) : (results fn tmps).run P w = .ok (resOf vs) w := by
  have e : results fn tmps = ((fn.results.mapM (readRes tmps)) >>= fun vs => pure (if h : vs.size = 1 then vs[0] else .tuple vs)) := rfl
  rw [e, Array.mapM_eq_mapM_toList]
  simp only [Sem.run_bind, Sem.run_map, h, Result.andThen_ok, Sem.run_pure]
  match vs with
  | [] => rfl
  | [v] => rfl
  | a :: b :: r => simp [resOf]

/-- What a call of a Go function comes to, from what it is handed. -/
structure FnSpec (P : Program) (f : FuncId) (args : List Value) (L : List Assn) (Q : Ending → List Assn → Prop) : Prop where
  can : ∀ (as : Array Value) (w : World), (callFunc f as).run P w = .ok (.enter f as) w
  out : ∀ w R, Own w L R → Calls P f args.toArray w fun e w' => ∃ L', Own w' L' R ∧ Q e L'

def mkEnv : Nat → List Value → Env
  | _, [] => []
  | k, v :: vs => (k, .v v) :: mkEnv (k + 1) vs

def bodyX (P : Program) (fn : Func) (Q : Ending → List Assn → Prop) (e : Exit) (env : Env) (L : List Assn) : Prop :=
  match e with
  | .normal | .ret => resVC P fn.results.toList env L fun vs => RetVC (resOf vs) L Q
  | .panic ch => Q (.panicked ch) L
  | _ => False

theorem lk_mkEnv {k : Nat} {vs : List Value} : ∀ {i : Nat} {v : SV}, lk (mkEnv k vs) i = some v → ∃ j x, i = k + j ∧ vs[j]? = some x ∧ v = .v x := by
  induction vs generalizing k with
  | nil => intro i v h; cases h
  | cons y ys ih =>
    intro i v h
    unfold mkEnv lk at h
    cases hb : Nat.beq k i with
    | true =>
      simp only [hb, cond_true, Option.some.injEq] at h
      exact ⟨0, y, by simpa using (Nat.eq_of_beq_eq_true hb).symm, by simp, h.symm⟩
    | false =>
      simp only [hb, cond_false] at h
      obtain ⟨j, x, rfl, hx, rfl⟩ := ih h
      exact ⟨j + 1, x, by omega, by simpa using hx, rfl⟩

theorem putObj_other (w : World) (l : Nat) (o : Obj) {c : Nat} (h : c ≠ l) : (w.putObj l o).heap[c]? = w.heap[c]? := World.putObj_heap_other h

/-- The marks are come to: there is nothing to be done. -/
theorem take_marks {P : Program} {fn : Func} {tmps : Array Value} {Rf : Ending → World → Prop} {R : Rest} {u : FrameMode} (hu : u ≠ .run) : ∀ (ms : List Nat) (L : List Assn) (w : World), Own w (L ++ marks ms) R →
    (∀ w' D, Own w' (L ++ D) R → LeavesIn Fence.wide 0 P fn tmps Rf [] u w') → LeavesInM Fence.wide 0 P fn tmps Rf (mk ms) u w
  | [], L, w, o, h => h w [] o
  | D :: ms, L, w, o, h => by
    -- the mark's block is brought ahead
    have front : Own w (obj D (.deferred (some [])) :: (L ++ marks ms)) R := by
      have : Ent (L ++ obj D (.deferred (some [])) :: marks ms) (obj D (.deferred (some [])) :: (L ++ marks ms)) := by
        clear o h
        induction L with
        | nil => exact Ent.refl _
        | cons A L ih => exact (Ent.cons A ih).trans (Ent.swap _ _ _)
      exact this w R o
    have hD := front.of_obj
    have hlt := (Array.getElem?_eq_some_iff.1 hD).1
    have o2 := front.write (w' := w.putObj D (.deferred none)) (o' := .deferred none) (World.putObj_heap_same hlt) (fun c hc => putObj_other w D _ hc) rfl rfl rfl
    refine ⟨hu, .inl ⟨D, _, rfl, run_takeDeferred hD, ?_⟩⟩
    refine take_marks hu ms L _ ((Ent.drop _ _) _ _ o2) h

theorem Ent.append_left (L M : List Assn) : Ent (L ++ M) L := by
  induction L with
  | nil => exact Ent.nil _
  | cons A L ih => exact Ent.cons A ih

theorem FnSpec.intro {P : Program} {T : Tab} (hT : TabOK P T) {f : FuncId} {fn : Func} {c : Code} {args : List Value} {L : List Assn} {Q : Ending → List Assn → Prop} {n : Nat}
    (hcan : ∀ (as : Array Value) (w : World), (callFunc f as).run P w = .ok (.enter f as) w)
    (hf : P.funcs[f]? = some fn) (hb : fn.body = some c) (hn : fn.ntmps = n) (hle : Nat.ble n 1000000 = true) (hargs : Nat.ble args.length n = true)
    (h : vc P T n c (mkEnv 0 args) L (bodyX P fn Q)) : FnSpec P f args L Q := by
  refine ⟨hcan, fun w R hw => ?_⟩
  subst hn
  have hle' : fn.ntmps ≤ dkey := Nat.le_of_ble_eq_true hle
  have hargs' : args.length ≤ fn.ntmps := Nat.le_of_ble_eq_true hargs
  refine (callsIn_wide (n := 0)).1 (callsIn_of_wp_marks hf hb trivial (wpIn_mono (vc_sound hT (R := R) (ro := none) c _ _ _ h _ w ⟨[], R, ?_, hw, (fun w' L' o => by simpa [marks] using o), fun l e => by cases e⟩) ?_))
  · refine ⟨by simp; omega, hle', ?_, rfl⟩
    intro i v hv hd
    obtain ⟨j, x, rfl, hx, rfl⟩ := lk_mkEnv hv
    have hj : j < args.length := (List.getElem?_eq_some_iff.1 hx).1
    have hx' : args[j] = x := (List.getElem?_eq_some_iff.1 hx).2
    simp [Array.getElem?_append, hj, hx']
  · rintro e a w' ⟨env, L', ⟨ms, R1, hf', hw', hl, -⟩, hq⟩
    have fin : ∀ (hr : resVC P fn.results.toList env L' fun vs => RetVC (resOf vs) L' Q), LeavesInM Fence.wide 0 P fn a.tmps (fun e w' => ∃ L', Own w' L' R ∧ Q e L') a.defers .returning w' := by
      intro hr
      rw [hf'.defs]
      refine take_marks (by simp) ms L' w' (hl _ _ hw') fun w2 D o2 => ?_
      obtain ⟨R2, o3, back⟩ := o2.frame
      obtain ⟨vs, hret, hrun⟩ := resVC_sound hr hf' o3
      obtain ⟨L2, o4, q⟩ := hret.out _ _ o3
      exact ⟨_, results_run hrun, L2, Ent.append_left L2 D _ _ (back _ _ o4), q⟩
    cases e with
    | normal => exact fin hq
    | ret => exact fin hq
    | panic ch =>
      show LeavesInM Fence.wide 0 P fn a.tmps _ a.defers (.panicking ch) w'
      rw [hf'.defs]
      exact take_marks (by simp) ms L' w' (hl _ _ hw') fun w2 D o2 => ⟨L', Ent.append_left L' D _ _ o2, hq⟩
    | exit id => exact hq.elim
    | goto l => exact hq.elim
    | outgrown => exact hq.elim

end Go.X
