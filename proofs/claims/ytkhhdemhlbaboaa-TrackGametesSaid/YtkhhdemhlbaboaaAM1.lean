/- The abstract machine, part 1: its operations, and that the model's do the same. -/
import Derived.Test.YtkhhdemhlbaboaaAM0
import Derived.Laws.MakeOwn
import Derived.Deep.AppendSrc
import Derived.Laws.Build
import Derived.Laws.StructEq
set_option linter.unusedVariables false
set_option linter.unusedSimpArgs false
namespace Go.AM

/-! ### Operands -/
def ev (ρ : Nat → Value) : Operand → Value
  | .tmp t => ρ t
  | .const v => v
  | .global g => .pointer (some ⟨g, 0, none⟩)
  | .func f => .func (.func f) #[] #[]

def constOk : Value → Bool
  | .agg cs => cs.toList.all (cellOk 0)
  | v => cellOk 0 v
def opOk (ng : Nat) : Operand → Bool
  | .const v => constOk v
  | .global g => decide (g < ng)
  | _ => true

def FRel (G : Gh) (ρ : Nat → Value) (a : Act) : Prop := ∀ i, VRel G (ρ i) (a.tmps.getD i undef)
theorem FRel.mono {G G' : Gh} (h : G.le G') {ρ : Nat → Value} {a : Act} (R : FRel G ρ a) : FRel G' ρ a := fun i => (R i).mono h

theorem low0 (G : Gh) : Low G 0 := fun b hb => by omega
theorem VRel.const {G : Gh} {v : Value} (h : constOk v = true) : VRel G v v := by
  cases v with
  | agg cs =>
    have := VRel.agg (cellOk.rels (low0 G) (l := cs.toList) h)
    simpa using this
  | _ => exact VRel.of_cellOk (low0 G) h

theorem FRel.ev {G : Gh} {ρ : Nat → Value} {a : Act} (R : FRel G ρ a) {base ng : Nat} (hl : Low G base) (hn : ng ≤ base) {x : Operand} (hx : opOk ng x = true) : VRel G (ev ρ x) (a.eval x) := by
  cases x with
  | tmp t => exact R t
  | const v => exact VRel.const hx
  | global g =>
    simp [opOk] at hx
    obtain ⟨k, hk⟩ := hl g (by omega)
    exact .ptr 0 hk
  | func f => exact .func f (x := []) (x' := []) (c := []) (c' := []) .nil .nil

/-! ### Operations that only compute -/
def iop : BinOp → IntKind → Int → Int → Option Value
  | .add, k, a, b => some (.int k (k.wrap (a + b)))
  | .sub, k, a, b => some (.int k (k.wrap (a - b)))
  | .mul, k, a, b => some (.int k (k.wrap (a * b)))
  | .quo, k, a, b => if b = 0 then none else some (.int k (k.wrap (a.tdiv b)))
  | .rem, k, a, b => if b = 0 then none else some (.int k (a.tmod b))
  | .and, k, a, b => some (.int k (k.wrap ((BitVec.ofInt k.bits a &&& BitVec.ofInt k.bits b).toNat)))
  | .or, k, a, b => some (.int k (k.wrap ((BitVec.ofInt k.bits a ||| BitVec.ofInt k.bits b).toNat)))
  | .xor, k, a, b => some (.int k (k.wrap ((BitVec.ofInt k.bits a ^^^ BitVec.ofInt k.bits b).toNat)))
  | .andNot, k, a, b => some (.int k (k.wrap ((BitVec.ofInt k.bits a &&& ~~~ BitVec.ofInt k.bits b).toNat)))
  | .eql, _, a, b => some (.bool (a == b))
  | .neq, _, a, b => some (.bool (a != b))
  | .lss, _, a, b => some (.bool (decide (a < b)))
  | .leq, _, a, b => some (.bool (decide (a ≤ b)))
  | .gtr, _, a, b => some (.bool (decide (a > b)))
  | .geq, _, a, b => some (.bool (decide (a ≥ b)))
  | .shl, k, a, b => if b < 0 then none else some (.int k (k.wrap (a * 2 ^ (min b.toNat k.bits))))
  | .shr, k, a, b => if b < 0 then none else some (.int k (a.fdiv (2 ^ (min b.toNat k.bits))))

def isShift : BinOp → Bool
  | .shl | .shr => true
  | _ => false

theorem iop_run {op : BinOp} {k k' : IntKind} {a b : Int} {v : Value} (hk : k = k' ∨ isShift op = true) (h : iop op k a b = some v) (P : Program) (t : TypeId) (w : World) (x y : Operand) :
    (do eqGuard op t x y (.int k a) (.int k' b); binOp op t (.int k a) (.int k' b) : Sem Value).run P w = .ok v w := by
  cases op <;> simp only [isShift, or_false, Bool.false_eq_true] at hk <;> (try subst hk) <;> simp only [iop] at h <;> (try split at h) <;> (try (simp at h; done)) <;> (try simp only [Option.some.injEq] at h) <;> (try subst h) <;>
    simp_all [eqGuard, binOp, Op.intArith, Op.intDiv, Op.intBits, Op.intCmp, Op.shift] <;> (intro hb; omega)

theorem iop_scalar {op : BinOp} {k : IntKind} {a b : Int} {v : Value} (h : iop op k a b = some v) (G : Gh) : VRel G v v := by
  cases op <;> simp only [iop] at h <;> (try split at h) <;> (try (simp at h; done)) <;> simp only [Option.some.injEq] at h <;> subst h <;> first | exact .int _ _ | exact .bool _

/-- == on other things than integers. -/
inductive EqT where
  | bool | ptr | slice | func
  deriving DecidableEq

def eqA : EqT → Value → Value → Option Bool
  | .bool, .bool a, .bool b => some (a == b)
  | .ptr, .pointer none, .pointer b => some b.isNone
  | .ptr, .pointer (some _), .pointer none => some false
  | .slice, .slice none _ _, .slice b _ _ => some b.isNone
  | .slice, .slice (some _) _ _, .slice none _ _ => some false
  | .func, .nilFunc, .nilFunc => some true
  | .func, .func _ _ _, .nilFunc => some false
  | .func, .nilFunc, .func _ _ _ => some false
  | _, _, _ => none

def fillA : List Value → List (Nat × Nat × Value) → Option (List Value)
  | cs, [] => some cs
  | cs, (off, size, v) :: rest =>
    if v.cells.toList.length = size ∧ off + size ≤ cs.length then fillA (cs.take off ++ v.cells.toList ++ cs.drop (off + size)) rest else none

def intA : Value → Option Int
  | .int _ n => some n
  | _ => none

def bndA (ρ : Nat → Value) (d : Nat) : Option Operand → Option Nat
  | none => some d
  | some x => match ev ρ x with
    | .int _ n => if 0 ≤ n then some n.toNat else none
    | _ => none

/-- Slicing of a slice. -/
def sliceA (esz : Nat) (x : Value) (lo hi mx : Option Operand) (ρ : Nat → Value) : Option Value :=
  match x with
  | .slice none 0 0 =>
    match bndA ρ 0 lo, bndA ρ 0 hi, bndA ρ 0 mx with
    | some 0, some 0, some 0 => if mx.isNone ∨ hi.isSome then some (.slice none 0 0) else none
    | _, _, _ => none
  | .slice (some ⟨b, o, none⟩) len cap =>
    match bndA ρ 0 lo, bndA ρ len hi, bndA ρ cap mx with
    | some l, some h, some m => if l ≤ h ∧ h ≤ m ∧ m ≤ cap ∧ (mx.isNone ∨ hi.isSome) then
        some (.slice (some ⟨b, if m = l then o else o + l * esz, none⟩) (h - l) (m - l)) else none
    | _, _, _ => none
  | .slice (some ⟨b, o, some c⟩) len 0 =>
    match bndA ρ 0 lo, bndA ρ len hi, mx with
    | some l, some h, none =>
      if l ≤ h ∧ h ≤ len then
        if c = 0 ∧ o = 0 ∧ l = 0 then some (.slice (some ⟨b, 0, some 0⟩) h 0)
        else if l = h then some (.slice (some ⟨0, 0, some 2⟩) 0 0)
        else if c = 0 ∧ o = 0 ∨ c = 1 then some (.slice (some ⟨b, o + l * esz, some 1⟩) (h - l) 0) else none
      else none
    | some l, some h, some m =>
      match bndA ρ 0 (some m) with
      | some m => if l ≤ h ∧ h ≤ m ∧ m ≤ len ∧ l < m ∧ hi.isSome = true ∧ (c = 0 ∧ o = 0 ∨ c = 1) then some (.slice (some ⟨b, o + l * esz, none⟩) (h - l) (m - l)) else
          if l = 0 ∧ h = 0 ∧ m = 0 ∧ hi.isSome = true ∧ (c = 0 ∧ o = 0 ∨ c = 1) then some (.slice (some ⟨b, o, none⟩) 0 0) else none
      | none => none
    | _, _, _ => none
  | _ => none

inductive POp where
  | mov (x : Operand)
  | pick (c a b : Operand)
  | bin (op : BinOp) (x y : Operand)
  | eqv (neg : Bool) (t : EqT) (x y : Operand)
  | not (x : Operand)
  | neg (x : Operand)
  | conv (k : IntKind) (x : Operand)
  | ext (x : Operand) (i : Nat)
  | nilc (x : Operand)
  | faddr (off : Nat) (x : Operand)
  | iaddr (esz : Nat) (x i : Operand)
  | aaddr (len esz : Nat) (x i : Operand)
  | build (zero : List Value) (parts : List (Nat × Nat × Operand))
  | slice (esz : Nat) (x : Operand) (lo hi mx : Option Operand)
  | len (x : Operand)
  | mn (x y : Operand)
  | mx (x y : Operand)
  | mkfn (f : FuncId) (first captured : List Operand)
  | mkif (t : TypeId) (x : Operand)
  | stuck (x : Operand)
  | eqs (neg : Bool) (n : Nat) (x y : Operand)
  | eqi (neg : Bool) (ts : List TypeId) (x y : Operand)
  | tas (t : TypeId) (z : Value) (ok : Bool) (x : Operand)

/-- Whole numbers, as cells. -/
def intsOf : List Value → Option (List Int)
  | [] => some []
  | .int .i64 n :: r => (intsOf r).map (n :: ·)
  | _ => none

/-- == on interface values: of two values of one type only if the type has no fields. -/
def eqIA (ts : List TypeId) : Value → Value → Option Bool
  | .iface t (.agg a), .iface t' (.agg b) => if t = t' then (if ts.contains t = true ∧ a.size = 0 ∧ b.size = 0 then some true else none) else some false
  | .iface t _, .iface t' _ => if t = t' then none else some false
  | .iface _ _, .nilIface => some false
  | .nilIface, .iface _ _ => some false
  | _, _ => none

/-- x.(t) -/
def tasA (t : TypeId) (z : Value) (ok : Bool) : Value → Option Value
  | .iface t' v => if t' = t then some (if ok then .tuple #[v, .bool true] else v) else if ok then some (.tuple #[z, .bool false]) else none
  | .nilIface => if ok then some (.tuple #[z, .bool false]) else none
  | _ => none

def pop : POp → (Nat → Value) → Option Value
  | .mov x, ρ => some (ev ρ x)
  | .pick c a b, ρ => match ev ρ c with
    | .bool t => some (if t then ev ρ a else ev ρ b)
    | _ => none
  | .bin op x y, ρ => match ev ρ x, ev ρ y with
    | .int k a, .int k' b => if k = k' ∨ isShift op = true then iop op k a b else none
    | _, _ => none
  | .eqv neg t x y, ρ => match eqA t (ev ρ x) (ev ρ y) with
    | some b => some (.bool (if neg then !b else b))
    | none => none
  | .not x, ρ => match ev ρ x with
    | .bool b => some (.bool !b)
    | _ => none
  | .neg x, ρ => match ev ρ x with
    | .int k n => some (.int k (k.wrap (0 - n)))
    | _ => none
  | .conv k x, ρ => match ev ρ x with
    | .int _ n => some (.int k (k.wrap n))
    | _ => none
  | .ext x i, ρ => match ev ρ x with
    | .tuple vs => vs.toList[i]?
    | _ => none
  | .nilc x, ρ => match ev ρ x with
    | .pointer (some a) => some (.pointer (some a))
    | _ => none
  | .faddr off x, ρ => match ev ρ x with
    | .pointer (some ⟨b, o, none⟩) => some (.pointer (some ⟨b, o + off, none⟩))
    | _ => none
  | .iaddr esz x i, ρ => match ev ρ x, ev ρ i with
    | .slice (some ⟨b, o, _⟩) l _, .int _ n => if 0 ≤ n ∧ n < (l : Int) then some (.pointer (some ⟨b, o + n.toNat * esz, none⟩)) else none
    | _, _ => none
  | .aaddr l esz x i, ρ => match ev ρ x, ev ρ i with
    | .pointer (some ⟨b, o, none⟩), .int _ n => if 0 ≤ n ∧ n < (l : Int) then some (.pointer (some ⟨b, o + n.toNat * esz, none⟩)) else none
    | _, _ => none
  | .build zero parts, ρ => match fillA zero (parts.map fun p => (p.1, p.2.1, ev ρ p.2.2)) with
    | some cs => some (.agg cs.toArray)
    | none => none
  | .slice esz x lo hi mx, ρ => sliceA esz (ev ρ x) lo hi mx ρ
  | .len x, ρ => match ev ρ x with
    | .slice _ l _ => some (.int .i64 l)
    | _ => none
  | .mn x y, ρ => match ev ρ x, ev ρ y with
    | .int k a, .int _ b => some (.int k (if b < a then b else a))
    | _, _ => none
  | .mx x y, ρ => match ev ρ x, ev ρ y with
    | .int k a, .int _ b => some (.int k (if b > a then b else a))
    | _, _ => none
  | .mkfn f first captured, ρ => some (.func (.func f) (first.map (ev ρ)).toArray (captured.map (ev ρ)).toArray)
  | .mkif t x, ρ => some (.iface t (ev ρ x))
  | .stuck _, _ => none
  | .eqs neg n x y, ρ => match ev ρ x, ev ρ y with
    | .agg xs, .agg ys => match intsOf xs.toList, intsOf ys.toList with
      | some a, some b => if a.length = n ∧ b.length = n then some (.bool (if neg then !(a == b) else a == b)) else none
      | _, _ => none
    | _, _ => none
  | .eqi neg ts x y, ρ => match eqIA ts (ev ρ x) (ev ρ y) with
    | some b => some (.bool (if neg then !b else b))
    | none => none
  | .tas t z ok x, ρ => tasA t z ok (ev ρ x)

/-! ### What an operation of the model is here -/
def szOf (P : Program) (t : TypeId) : Option Nat := (P.info? t).map (·.size)
def zeroOf (P : Program) (t : TypeId) : Option (List Value) := ((P.info? t).bind (·.zero)).map (·.cells.toList)

def eqT (P : Program) (t : TypeId) : Option EqT :=
  match P.underlying t with
  | some .bool => some .bool
  | some (.pointer _) => some .ptr
  | some (.slice _) => some .slice
  | some (.func ..) => some .func
  | _ => none

def structParts (P : Program) (fs : Array Field) : List (Nat × Operand) → Option (List (Nat × Nat × Operand))
  | [] => some []
  | (i, x) :: r => match fs[i]? with
    | some f => match szOf P f.type, structParts P fs r with
      | some s, some l => some ((f.offset, s, x) :: l)
      | _, _ => none
    | none => none

/-- A struct of whole numbers alone. -/
def intFields (P : Program) : Nat → List Field → Bool
  | _, [] => true
  | i, f :: r => f.name != "_" && f.offset == i && (match P.underlying f.type with
    | some (.int _) => true
    | _ => false) && intFields P (i + 1) r

def eqS (P : Program) (t : TypeId) : Option Nat :=
  match P.underlying t with
  | some (.struct fs) => if intFields P 0 fs.toList = true ∧ P.eqGuardType P.depth t = false ∧ P.stoodInHeld t = false then some fs.size else none
  | _ => none

/-- A type of structs without fields. -/
def nullT (P : Program) (t : TypeId) : Bool :=
  match P.info? t with
  | some i => i.comparable && (match P.underlying t with
    | some (.struct fs) => fs.toList.isEmpty && !P.stoodInHeld t
    | _ => false)
  | none => false
def nullTs (P : Program) : List TypeId := (List.range P.types.size).filter (nullT P)

def isIface : TypeDesc → Bool
  | .interface _ => true
  | _ => false

def cEq (P : Program) (neg : Bool) (t : TypeId) (d : TypeDesc) (x y : Operand) : Option POp :=
  if isIface d = true then some (.eqi neg (nullTs P) x y)
  else match eqT P t with
    | some e => some (.eqv neg e x y)
    | none => (eqS P t).map fun n => .eqs neg n x y

def cP (P : Program) : Op → Option POp
  | .move x => some (.mov x)
  | .assign x => some (.mov x)
  | .pick c a b => some (.pick c a b)
  | .binOp op t x y _ => match P.underlying t with
    | some (.int _) => some (.bin op x y)
    | some d => match op with
      | .eql => cEq P false t d x y
      | .neq => cEq P true t d x y
      | _ => none
    | none => none
  | .unOp .not _ x => some (.not x)
  | .unOp .neg _ x => some (.neg x)
  | .convert src dst x => match P.underlying src, P.underlying dst with
    | some d, some (.int k) => some (.conv k x)
    | _, _ => none
  | .extract x i => some (.ext x i)
  | .nilCheck x => some (.nilc x)
  | .fieldAddr s x f => match P.underlying s with
    | some (.struct fs) => match fs[f]? with
      | some fd => match szOf P fd.type with
        | some (_ + 1) => some (.faddr fd.offset x)
        | _ => none
      | none => none
    | _ => none
  | .indexAddr t x i => match P.underlying t with
    | some (.slice e) => (szOf P e).map fun s => .iaddr s x i
    | some (.array n e) => if 2 ≤ n then (szOf P e).map fun s => .aaddr n s x i else none
    | _ => none
  | .build t parts => match P.underlying t, zeroOf P t with
    | some (.struct fs), some z => if z.all (cellOk 0) = true ∧ fs.toList.all (fun f => (szOf P f.type).isSome) = true then (structParts P fs parts.toList).map (.build z) else none
    | _, _ => none
  | .slice t x lo hi mx => match P.underlying t with
    | some (.slice e) => (szOf P e).map fun s => .slice s x lo hi mx
    | _ => none
  | .makeFunc (.func f) first captured => some (.mkfn f first.toList captured.toList)
  | .makeInterface t x => if P.concrete t then some (.mkif t x) else none
  | .typeAssert x _ t ok => match P.underlying t, (P.info? t).bind (·.zero) with
    | some d, some z => if isIface d = false ∧ constOk z = true then some (.tas t z ok x) else none
    | _, _ => none
  | .panic x => some (.stuck x)
  | .call { callee := .builtin .len, args, argTypes } => match args.toList, (argTypes[0]?).bind P.underlying with
    | [x], some (.slice _) => some (.len x)
    | _, _ => none
  | .call { callee := .builtin .min, args, .. } => match args.toList with
    | [x, y] => some (.mn x y)
    | _ => none
  | .call { callee := .builtin .max, args, .. } => match args.toList with
    | [x, y] => some (.mx x y)
    | _ => none
  | _ => none

def opsOk (ng : Nat) (o : Op) : Bool := o.operands.toList.all (opOk ng)

/-- The model's operation yields 'v' in whatever world. -/
def YieldsAll (P : Program) (o : Oper) (a : Act) (v : Value) : Prop := ∀ w, (execOp a.eval o).run P w = .ok (.value v) w

theorem VRels.map_ev {G : Gh} {ρ : Nat → Value} {a : Act} {l : List Operand} (hE : ∀ x ∈ l, VRel G (ev ρ x) (a.eval x)) : VRels G (l.map (ev ρ)) (l.map a.eval) := by
  induction l with
  | nil => exact .nil
  | cons x l ih => exact .cons (hE x (by simp)) (ih fun y hy => hE y (by simp [hy]))


theorem run_eq {P : Program} {t : TypeId} {e : EqT} (he : eqT P t = some e) {G : Gh} {u u' v v' : Value} {b : Bool} (hu : VRel G u u') (hv : VRel G v v') (hb : eqA e u v = some b) (w : World) :
    (Op.equal t u' v').run P w = .ok b w := by
  unfold eqT at he
  have key : ∀ n, (Op.equalIn (n + 1) t u' v').run P w = .ok b w := by
    intro n
    split at he <;> (try (cases he; done)) <;> rename_i hd <;> simp only [Option.some.injEq] at he <;> subst he <;>
      cases hu <;> cases hv <;> simp only [eqA, Option.some.injEq, reduceCtorEq] at hb <;> subst hb <;> simp [Op.equalIn, run_underlying hd]
  exact key 9999

theorem run_eqv {P : Program} {t : TypeId} {e : EqT} (he : eqT P t = some e) {G : Gh} {u u' v v' : Value} {b : Bool} (hu : VRel G u u') (hv : VRel G v v') (hb : eqA e u v = some b) (w : World) (x y : Operand) :
    (do eqGuard .eql t x y u' v'; binOp .eql t u' v' : Sem Value).run P w = .ok (.bool b) w ∧
    (do eqGuard .neq t x y u' v'; binOp .neq t u' v' : Sem Value).run P w = .ok (.bool !b) w := by
  have h := run_eq he hu hv hb w
  cases e <;> cases hu <;> cases hv <;> simp only [eqA, Option.some.injEq, reduceCtorEq] at hb <;> simp [eqGuard, binOp, h]

theorem intsOf_rel {G : Gh} : ∀ {l l' : List Value} {a : List Int}, VRels G l l' → intsOf l = some a → l' = a.map (.int .i64)
  | _, _, a, .nil, h => by simp [intsOf] at h; subst h; rfl
  | _, _, a, .cons hv hl, h => by
    cases hv <;> (try (simp only [intsOf, reduceCtorEq] at h; done))
    rename_i k n
    cases k <;> simp only [intsOf, reduceCtorEq, Option.map_eq_some_iff] at h
    obtain ⟨b, hb, rfl⟩ := h
    rw [intsOf_rel hl hb]; rfl

theorem run_eqFields {P : Program} (d : Nat) (xs ys : Array Value) (w : World) : ∀ (fs : List Field) (i : Nat) (a b : List Int), intFields P i fs = true → a.length = fs.length → b.length = fs.length →
    xs.toList.drop i = a.map (.int .i64) → ys.toList.drop i = b.map (.int .i64) → (Op.eqFields (d + 1) xs ys fs).run P w = .ok (a == b) w
  | [], i, a, b, _, ha, hb, _, _ => by
    have : a = [] := List.length_eq_zero_iff.1 ha
    have : b = [] := List.length_eq_zero_iff.1 hb
    subst a; subst b; simp [Op.eqFields]
  | f :: fs, i, a, b, hf, ha, hb, hx, hy => by
    cases a with
    | nil => simp at ha
    | cons p a =>
      cases b with
      | nil => simp at hb
      | cons q b =>
        simp only [intFields, Bool.and_eq_true, bne_iff_ne, beq_iff_eq] at hf
        obtain ⟨⟨⟨h1, h2⟩, h3⟩, h4⟩ := hf
        split at h3
        · rename_i k hk
          have gx : xs[i]? = some (.int .i64 p) := by
            have : xs.toList[i]? = some (.int .i64 p) := by
              have := congrArg (·[0]?) hx
              simpa [List.getElem?_drop] using this
            simpa using this
          have gy : ys[i]? = some (.int .i64 q) := by
            have : ys.toList[i]? = some (.int .i64 q) := by
              have := congrArg (·[0]?) hy
              simpa [List.getElem?_drop] using this
            simpa using this
          have hx' : xs.toList.drop (i + 1) = a.map (.int .i64) := by
            have := congrArg (List.drop 1) hx
            simpa [List.drop_drop, Nat.add_comm] using this
          have hy' : ys.toList.drop (i + 1) = b.map (.int .i64) := by
            have := congrArg (List.drop 1) hy
            simpa [List.drop_drop, Nat.add_comm] using this
          have ih := run_eqFields d xs ys w fs (i + 1) a b h4 (by simpa using ha) (by simpa using hb) hx' hy'
          simp only [Op.eqFields, h1, ne_eq, not_false_eq_true, if_true, h2, part, isAgg]
          simp [run_underlying hk, gx, gy, Op.equalIn]
          by_cases hpq : p = q
          · subst hpq; simp [ih]
          · simp [hpq]
        · cases h3

theorem run_eqs {P : Program} {t : TypeId} {n : Nat} (he : eqS P t = some n) {a b : List Int} (ha : a.length = n) (hb : b.length = n) (w : World) (x y : Operand) :
    (do eqGuard .eql t x y (.agg (a.map (.int .i64)).toArray) (.agg (b.map (.int .i64)).toArray); binOp .eql t (.agg (a.map (.int .i64)).toArray) (.agg (b.map (.int .i64)).toArray) : Sem Value).run P w = .ok (.bool (a == b)) w ∧
    (do eqGuard .neq t x y (.agg (a.map (.int .i64)).toArray) (.agg (b.map (.int .i64)).toArray); binOp .neq t (.agg (a.map (.int .i64)).toArray) (.agg (b.map (.int .i64)).toArray) : Sem Value).run P w = .ok (.bool !(a == b)) w := by
  unfold eqS at he
  split at he
  · rename_i fs hfs
    split at he
    · rename_i hc
      obtain ⟨c1, c2, c3⟩ := hc
      simp only [Option.some.injEq] at he
      have hfo : P.fieldsOf t = fs := by simp [Program.fieldsOf, hfs]
      have key : (Op.equal t (.agg (a.map (.int .i64)).toArray) (.agg (b.map (.int .i64)).toArray)).run P w = .ok (a == b) w := by
        have e1 : Op.equal t (.agg (a.map (.int .i64)).toArray) (.agg (b.map (.int .i64)).toArray) = Op.equalIn (9999 + 1) t (.agg (a.map (.int .i64)).toArray) (.agg (b.map (.int .i64)).toArray) := rfl
        rw [e1, run_equalIn_struct w 9999 t _ _ (by rw [hfo]; exact hfs) c3, hfo]
        exact run_eqFields 9998 _ _ w fs.toList 0 a b c1 (by simp [ha, he]) (by simp [hb, he]) (by simp) (by simp)
      refine ⟨?_, ?_⟩ <;> simp [eqGuard, binOp, c2, key]
    · cases he
  · cases he

theorem fold_set (off : Nat) : ∀ (l : List Value) (k : Nat) (C : Array Value), off + k + l.length ≤ C.size →
    (l.zipIdx k).foldl (fun (cs : Array Value) (x : Value × Nat) => cs.setIfInBounds (off + x.2) x.1) C = (C.toList.take (off + k) ++ l ++ C.toList.drop (off + k + l.length)).toArray
  | [], k, C, h => by simp
  | v :: l, k, C, h => by
    simp only [List.zipIdx_cons, List.foldl_cons, List.length_cons] at *
    rw [fold_set off l (k + 1) (C.setIfInBounds (off + k) v) (by simp; omega)]
    congr 1
    apply List.ext_getElem?
    intro i
    have hC : C.toList.length = C.size := by simp
    simp only [Array.toList_setIfInBounds, List.getElem?_append, List.getElem?_take, List.getElem?_drop, List.length_append, List.length_take, List.length_set, List.getElem?_set, hC, List.length_cons]
    have m1 : min (off + (k + 1)) C.size = off + (k + 1) := by omega
    have m2 : min (off + k) C.size = off + k := by omega
    rw [m1, m2]
    by_cases q1 : i < off + k
    · have a1 : i < off + (k + 1) := by omega
      have a2 : i < off + (k + 1) + l.length := by omega
      have a3 : i < off + k + (l.length + 1) := by omega
      have a4 : ¬ off + k = i := by omega
      simp [q1, a1, a2, a3, a4]
    · by_cases q2 : i = off + k
      · subst q2
        have a5 : off + k < C.size := by omega
        simp [a5]
        omega
      · by_cases q3 : i < off + (k + 1) + l.length
        · have a1 : ¬ i < off + (k + 1) := by omega
          have a3 : i < off + k + (l.length + 1) := by omega
          have a6 : i - (off + k) = (i - (off + (k + 1))) + 1 := by omega
          simp [q1, a1, q3, a3, a6]
        · have a3 : ¬ i < off + k + (l.length + 1) := by omega
          have a4 : ¬ off + k = off + (k + 1) + l.length + (i - (off + (k + 1) + l.length)) := by omega
          have a7 : off + (k + 1) + l.length + (i - (off + (k + 1) + l.length)) = off + k + (l.length + 1) + (i - (off + k + (l.length + 1))) := by omega
          have a8 : ¬ off + k = off + k + (l.length + 1) + (i - (off + k + (l.length + 1))) := by omega
          simp only [q3, a3, if_false, a7, a8]

theorem VRel.cells {G : Gh} {v v' : Value} (h : VRel G v v') : VRels G v.cells.toList v'.cells.toList := by
  have hv := h
  cases h <;> first | exact .cons hv .nil | (rename_i hh; simpa [Value.cells] using hh)

theorem fill_rel {G : Gh} (place : Nat → Option (Nat × Nat)) : ∀ (l : List (Nat × Nat × Value)) (m : List (Nat × Value)) (cs : List Value) (C : Array Value) (r : List Value),
    VRels G cs C.toList → (l.length = m.length) → (∀ (i : Nat) (x : Nat × Nat × Value), l[i]? = some x → ∃ y : Nat × Value, m[i]? = some y ∧ place y.1 = some (x.1, x.2.1) ∧ VRel G x.2.2 y.2) → fillA cs l = some r →
    ∃ C', Instr.fill place C m = some C' ∧ VRels G r C'.toList
  | [], [], cs, C, r, h, _, _, hf => by simp [fillA] at hf; subst hf; exact ⟨C, rfl, h⟩
  | [], _ :: _, _, _, _, _, hl, _, _ => by simp at hl
  | _ :: _, [], _, _, _, _, hl, _, _ => by simp at hl
  | (off, size, v) :: l, (i, u) :: m, cs, C, r, h, hl, hx, hf => by
    obtain ⟨y, hy, hp, hv⟩ := hx 0 _ rfl
    simp at hy; subst hy
    simp only at hp hv
    unfold fillA at hf
    split at hf
    · rename_i hc
      obtain ⟨hc1, hc2⟩ := hc
      have hlen := h.length
      have hcells := hv.cells
      have hul := hcells.length
      have hus : u.cells.size = size := by rw [← hc1, ← hul]; simp
      have hCs : C.size = cs.length := by rw [← hlen]; simp
      have e1 : (u.cells.zipIdx.foldl (fun cs (c, j) => cs.setIfInBounds (off + j) c) C) = (C.toList.take off ++ u.cells.toList ++ C.toList.drop (off + size)).toArray := by
        have := fold_set off u.cells.toList 0 C (by simp [hus]; omega)
        simp only [Nat.add_zero, Array.length_toList, hus] at this
        rw [← this, ← Array.foldl_toList, Array.toList_zipIdx]
      have := fill_rel place l m (cs.take off ++ v.cells.toList ++ cs.drop (off + size)) (C.toList.take off ++ u.cells.toList ++ C.toList.drop (off + size)).toArray r
        (by simpa using ((h.take off).append hcells).append (h.drop (off + size))) (by simpa using hl) (fun j x hj => by simpa using hx (j + 1) x (by simpa using hj)) hf
      obtain ⟨C', h1, h2⟩ := this
      refine ⟨C', ?_, h2⟩
      simp only [Instr.fill, hp]
      rw [if_neg (by simp [hus]; omega), e1]
      exact h1
    · cases hf

/-- A bound of a slice expression. -/
theorem bnd_rel {ρ : Nat → Value} {a : Act} {x : Option Operand} {d n : Nat} {G : Gh} (hE : ∀ y, x = some y → VRel G (ev ρ y) (a.eval y)) (h : bndA ρ d x = some n) :
    (x = none ∧ n = d) ∨ ∃ y k, x = some y ∧ a.eval y = .int k (n : Int) := by
  cases x with
  | none => simp [bndA] at h; exact .inl ⟨rfl, h.symm⟩
  | some y =>
    right
    have := hE y rfl
    simp only [bndA] at h
    generalize ev ρ y = u at *
    generalize hu : a.eval y = u' at *
    cases this <;> simp at h
    obtain ⟨h0, rfl⟩ := h
    exact ⟨y, _, rfl, by rw [Int.toNat_of_nonneg h0]; exact hu⟩

theorem run_sliceBound_ok {P : Program} (w : World) (k : IntKind) (n y : Nat) (code : BoundsCode) (h : n ≤ y) : (Instr.sliceBound (.int k n) y code).run P w = .ok n w := by
  simp [Instr.sliceBound, asIntOf]
  intro; omega

theorem run_bounds {P : Program} (w : World) {ρ : Nat → Value} {a : Act} {lo hi mx : Option Operand} {G : Gh} (hlo : ∀ y, lo = some y → VRel G (ev ρ y) (a.eval y)) (hhi : ∀ y, hi = some y → VRel G (ev ρ y) (a.eval y))
    (hmx : ∀ y, mx = some y → VRel G (ev ρ y) (a.eval y)) {len cap l h m : Nat} (el : bndA ρ 0 lo = some l) (eh : bndA ρ len hi = some h) (em : bndA ρ cap mx = some m) (h1 : l ≤ h) (h2 : h ≤ m) (h3 : m ≤ cap) (h4 : mx.isNone ∨ hi.isSome) :
    (Instr.sliceBounds true len cap (lo.map a.eval) (hi.map a.eval) (mx.map a.eval)).run P w = .ok (l, h, m) w := by
  rcases bnd_rel hlo el with ⟨rfl, rfl⟩ | ⟨yl, kl, rfl, el⟩ <;> rcases bnd_rel hhi eh with ⟨rfl, rfl⟩ | ⟨yh, kh, rfl, eh⟩ <;> rcases bnd_rel hmx em with ⟨rfl, rfl⟩ | ⟨ym, km, rfl, em⟩ <;>
    (try (simp at h4; done)) <;> simp_all [Instr.sliceBounds, run_sliceBound_ok]

theorem szOf_run {P : Program} {t : TypeId} {s : Nat} (h : szOf P t = some s) (w : World) : (sizeOf t).run P w = .ok s w := by
  unfold szOf at h
  cases hi : P.info? t with
  | none => simp [hi] at h
  | some i => simp [hi] at h; subst h; simp [sizeOf, typeInfo, hi]

theorem zeroOf_run {P : Program} {t : TypeId} {z : List Value} (h : zeroOf P t = some z) : ∃ i zv, P.info? t = some i ∧ i.zero = some zv ∧ zv.cells.toList = z ∧ ∀ w, (zeroValue t).run P w = .ok zv w := by
  unfold zeroOf at h
  cases hi : P.info? t with
  | none => simp [hi] at h
  | some i =>
    cases hz : i.zero with
    | none => simp [hi, hz] at h
    | some zv => simp [hi, hz] at h; exact ⟨i, zv, rfl, hz, h, fun w => by simp [zeroValue, typeInfo, hi, hz]⟩

theorem Addr.add_eq (b o n : Nat) : (⟨b, o, none⟩ : Addr).add n = ⟨b, o + n, none⟩ := by
  unfold Addr.add
  split
  · rename_i h; subst h; rfl
  · rfl

theorem slice_sound {P : Program} {t e : TypeId} {esz : Nat} (ht : P.underlying t = some (.slice e)) (hs : szOf P e = some esz) {ρ : Nat → Value} {a : Act} {x : Value} {x' : Value} {lo hi mx : Option Operand} {G : Gh} (hx : VRel G x x')
    (hlo : ∀ y, lo = some y → VRel G (ev ρ y) (a.eval y)) (hhi : ∀ y, hi = some y → VRel G (ev ρ y) (a.eval y)) (hmx : ∀ y, mx = some y → VRel G (ev ρ y) (a.eval y)) {v : Value} (hv : sliceA esz x lo hi mx ρ = some v) :
    ∃ v', VRel G v v' ∧ ∀ w, (Instr.sliceAt t x' (lo.map a.eval) (hi.map a.eval) (mx.map a.eval)).run P w = .ok v' w := by
  have head : ∀ base len cap l h m, (∀ w, (Instr.sliceBounds true len cap (lo.map a.eval) (hi.map a.eval) (mx.map a.eval)).run P w = .ok (l, h, m) w) →
      ∀ w, (Instr.sliceAt t (.slice base len cap) (lo.map a.eval) (hi.map a.eval) (mx.map a.eval)).run P w = .ok (.slice (if m = l then base else base.map (·.add (l * esz))) (h - l) (m - l)) w := by
    intro base len cap l h m hb w
    simp [Instr.sliceAt, Instr.slice, run_underlying ht, hb, szOf_run hs]
  cases hx <;> simp only [sliceA, reduceCtorEq] at hv
  case nilslice =>
    split at hv
    · rename_i e1 e2 e3
      split at hv
      · rename_i h4
        simp only [Option.some.injEq] at hv; subst hv
        refine ⟨.slice none 0 0, .nilslice, fun w => ?_⟩
        have := head none 0 0 0 0 0 (fun w => run_bounds w hlo hhi hmx e1 e2 e3 (Nat.le_refl _) (Nat.le_refl _) (Nat.le_refl _) h4) w
        simpa using this
      · cases hv
    · cases hv
  case slice b c k o l m h =>
    split at hv
    · rename_i e1 e2 e3
      split at hv
      · rename_i hc
        obtain ⟨c1, c2, c3, c4⟩ := hc
        simp only [Option.some.injEq] at hv; subst hv
        rename_i l1 h1 m1
        refine ⟨_, ?_, head (some ⟨c, o, none⟩) l m l1 h1 m1 (fun w => run_bounds w hlo hhi hmx e1 e2 e3 c1 c2 c3 c4)⟩
        split
        · exact .slice _ _ _ h
        · simp only [Option.map_some, Addr.add_eq]; exact .slice _ _ _ h
      · cases hv
    · cases hv
  case grown b c k l h hl =>
    split at hv
    · rename_i l1 h1 e1 e2
      split at hv
      · rename_i hc
        obtain ⟨c1, c2⟩ := hc
        have hr := head (some ⟨c, 0, none⟩) l k l1 h1 k (fun w => run_bounds w hlo hhi (by simp) e1 e2 rfl c1 (by omega) (Nat.le_refl _) (by simp))
        split at hv
        · rename_i hc; obtain ⟨_, _, rfl⟩ := hc
          simp only [Option.some.injEq] at hv; subst hv
          refine ⟨_, ?_, hr⟩
          have : (if k = 0 then (some ⟨c, 0, none⟩ : Option Addr) else (some ⟨c, 0, none⟩ : Option Addr).map (·.add (0 * esz))) = some ⟨c, 0, none⟩ := by split <;> simp [Addr.add_eq]
          rw [this]
          exact .grown _ h (by omega)
        · split at hv
          · rename_i hc; subst hc
            simp only [Option.some.injEq] at hv; subst hv
            refine ⟨_, ?_, hr⟩
            rw [Nat.sub_self]
            split
            · exact .empty _ _
            · simp only [Option.map_some]; exact .empty _ _
          · rename_i hne
            simp only [and_self, true_or, if_true, Option.some.injEq] at hv; subst hv
            refine ⟨_, ?_, hr⟩
            rw [if_neg (by omega)]
            simp only [Option.map_some, Addr.add_eq]
            exact .part _ _ _ h (by omega)
      · cases hv
    · rename_i l1 h1 y e1 e2
      split at hv
      · rename_i m1 e3
        have e3' : bndA ρ k (some y) = some m1 := e3
        split at hv
        · rename_i hc; obtain ⟨c1, c2, c3, c4, c5, c6⟩ := hc
          simp only [Option.some.injEq] at hv; subst hv
          refine ⟨_, ?_, head (some ⟨c, 0, none⟩) l k l1 h1 m1 (fun w => run_bounds w hlo hhi hmx e1 e2 e3' c1 c2 (by omega) (by simp [c5]))⟩
          rw [if_neg (by omega)]
          simp only [Option.map_some, Addr.add_eq]
          exact .slice _ _ _ h
        · split at hv
          · rename_i hc; obtain ⟨rfl, rfl, rfl, c5, c6⟩ := hc
            simp only [Option.some.injEq] at hv; subst hv
            refine ⟨_, ?_, head (some ⟨c, 0, none⟩) l k 0 0 0 (fun w => run_bounds w hlo hhi hmx e1 e2 e3' (Nat.le_refl _) (Nat.le_refl _) (by omega) (by simp [c5]))⟩
            simp only [if_true]
            exact .slice _ _ _ h
          · cases hv
      · cases hv
    · cases hv
  case part b c k o l m h hl =>
    split at hv
    · rename_i l1 h1 e1 e2
      split at hv
      · rename_i hc
        obtain ⟨c1, c2⟩ := hc
        have hr := head (some ⟨c, o, none⟩) l m l1 h1 m (fun w => run_bounds w hlo hhi (by simp) e1 e2 rfl c1 (by omega) (Nat.le_refl _) (by simp))
        split at hv
        · rename_i hc; simp at hc
        · split at hv
          · rename_i hc; subst hc
            simp only [Option.some.injEq] at hv; subst hv
            refine ⟨_, ?_, hr⟩
            rw [Nat.sub_self]
            split
            · exact .empty _ _
            · simp only [Option.map_some]; exact .empty _ _
          · rename_i hne
            simp only [or_true, if_true, Option.some.injEq] at hv; subst hv
            refine ⟨_, ?_, hr⟩
            rw [if_neg (by omega)]
            simp only [Option.map_some, Addr.add_eq]
            exact .part _ _ _ h (by omega)
      · cases hv
    · rename_i l1 h1 y e1 e2
      split at hv
      · rename_i m1 e3
        have e3' : bndA ρ m (some y) = some m1 := e3
        split at hv
        · rename_i hc; obtain ⟨c1, c2, c3, c4, c5, c6⟩ := hc
          simp only [Option.some.injEq] at hv; subst hv
          refine ⟨_, ?_, head (some ⟨c, o, none⟩) l m l1 h1 m1 (fun w => run_bounds w hlo hhi hmx e1 e2 e3' c1 c2 (by omega) (by simp [c5]))⟩
          rw [if_neg (by omega)]
          simp only [Option.map_some, Addr.add_eq]
          exact .slice _ _ _ h
        · split at hv
          · rename_i hc; obtain ⟨rfl, rfl, rfl, c5, c6⟩ := hc
            simp only [Option.some.injEq] at hv; subst hv
            refine ⟨_, ?_, head (some ⟨c, o, none⟩) l m 0 0 0 (fun w => run_bounds w hlo hhi hmx e1 e2 e3' (Nat.le_refl _) (Nat.le_refl _) (by omega) (by simp [c5]))⟩
            simp only [if_true]
            exact .slice _ _ _ h
          · cases hv
      · cases hv
    · cases hv
  case empty ad m =>
    split at hv
    · rename_i l1 h1 e1 e2
      split at hv
      · rename_i hc
        obtain ⟨c1, c2⟩ := hc
        have hh : h1 = 0 := by omega
        have hl1 : l1 = 0 := by omega
        subst hh; subst hl1
        have hr := head (some ad) 0 m 0 0 m (fun w => run_bounds w hlo hhi (by simp) e1 e2 rfl c1 (by omega) (Nat.le_refl _) (by simp))
        split at hv
        · rename_i hc; simp at hc
        · simp only [if_true, Option.some.injEq] at hv; subst hv
          refine ⟨_, ?_, hr⟩
          rw [Nat.sub_self]
          split
          · exact .empty _ _
          · simp only [Option.map_some]; exact .empty _ _
      · cases hv
    · split at hv
      · split at hv
        · rename_i hc; obtain ⟨_, _, _, _, _, hc⟩ := hc; simp at hc
        · split at hv
          · rename_i hc; obtain ⟨_, _, _, _, hc⟩ := hc; simp at hc
          · cases hv
      · cases hv
    · cases hv

theorem opsOk_get {ng : Nat} {op : Op} (h : opsOk ng op = true) {x : Operand} (hx : x ∈ op.operands) : opOk ng x = true := by
  unfold opsOk at h
  exact (List.all_eq_true.1 h) x (by simpa using hx)

theorem structParts_rel {P : Program} {fs : Array Field} {ρ : Nat → Value} {a : Act} {G : Gh} {places : Array (Nat × Nat)}
    (hp : ∀ (i : Nat) (f : Field), fs[i]? = some f → ∀ s, szOf P f.type = some s → places[i]? = some (f.offset, s)) : ∀ (l : List (Nat × Operand)) (m : List (Nat × Nat × Operand)), structParts P fs l = some m →
    (∀ x ∈ l, VRel G (ev ρ x.2) (a.eval x.2)) →
    (m.map fun p => (p.1, p.2.1, ev ρ p.2.2)).length = (l.map fun p => (p.1, a.eval p.2)).length ∧
    ∀ (i : Nat) (x : Nat × Nat × Value), (m.map fun p => (p.1, p.2.1, ev ρ p.2.2))[i]? = some x → ∃ y : Nat × Value, (l.map fun p => (p.1, a.eval p.2))[i]? = some y ∧ places[y.1]? = some (x.1, x.2.1) ∧ VRel G x.2.2 y.2
  | [], m, h, _ => by simp [structParts] at h; subst h; simp
  | (j, o) :: l, m, h, hE => by
    unfold structParts at h
    split at h
    · rename_i f hf
      split at h
      · rename_i s r hs hr
        simp only [Option.some.injEq] at h; subst h
        obtain ⟨h1, h2⟩ := structParts_rel hp l r hr (fun x hx => hE x (by simp [hx]))
        refine ⟨by simpa using h1, fun i x hx => ?_⟩
        cases i with
        | zero =>
          simp at hx; subst hx
          exact ⟨(j, a.eval o), by simp, hp j f hf s hs, hE (j, o) (by simp)⟩
        | succ i => simpa using h2 i x (by simpa using hx)
      · cases h
    · cases h

theorem mapM_places {P : Program} : ∀ (l : List Field), (∀ f ∈ l, ∃ s, szOf P f.type = some s) →
    ∃ r : List (Nat × Nat), (∀ w, (l.mapM fun f => Prod.mk f.offset <$> sizeOf f.type).run P w = .ok r w) ∧ ∀ (i : Nat) (f : Field), l[i]? = some f → ∀ s, szOf P f.type = some s → r[i]? = some (f.offset, s)
  | [], _ => ⟨[], by simp, by simp⟩
  | f :: l, h => by
    obtain ⟨s, hs⟩ := h f (by simp)
    obtain ⟨r, h1, h2⟩ := mapM_places l (fun g hg => h g (by simp [hg]))
    refine ⟨(f.offset, s) :: r, by simp [szOf_run hs, h1], fun i g hg s' hs' => ?_⟩
    cases i with
    | zero => simp at hg; subst hg; rw [hs] at hs'; simp only [Option.some.injEq] at hs'; subst hs'; rfl
    | succ i => simpa using h2 i g (by simpa using hg) s' hs'

theorem nullTs_spec {P : Program} {t : TypeId} (h : (nullTs P).contains t = true) : ∃ i, P.info? t = some i ∧ i.comparable = true ∧ P.underlying t = some (.struct #[]) ∧ P.stoodInHeld t = false := by
  unfold nullTs at h
  rw [List.contains_iff_mem, List.mem_filter] at h
  have h := h.2
  unfold nullT at h
  split at h
  · rename_i i hi
    rw [Bool.and_eq_true] at h
    refine ⟨i, hi, h.1, ?_⟩
    have h := h.2
    split at h
    · rename_i fs hf
      simp only [Bool.and_eq_true, Bool.not_eq_true', List.isEmpty_iff] at h
      refine ⟨?_, h.2⟩
      rw [hf]
      congr 2
      exact Array.toList_inj.1 h.1
    · cases h
  · cases h

theorem run_eqi {P : Program} {t : TypeId} {ms : Array (String × TypeId)} (hd : P.underlying t = some (.interface ms)) {G : Gh} {u u' v v' : Value} {b : Bool} (hu : VRel G u u') (hv : VRel G v v') (hb : eqIA (nullTs P) u v = some b) (w : World) (x y : Operand) :
    (do eqGuard .eql t x y u' v'; binOp .eql t u' v' : Sem Value).run P w = .ok (.bool b) w ∧
    (do eqGuard .neq t x y u' v'; binOp .neq t u' v' : Sem Value).run P w = .ok (.bool !b) w := by
  have key : (Op.equal t u' v').run P w = .ok b w ∧ (u' = .nilIface → v' = .nilIface → False) ∧ (∀ k n, u' ≠ .int k n) ∧ (∀ s, u' ≠ .string s) ∧ (∀ s, u' ≠ .agg s) ∧ ((∃ k n, u' = .iface k n) ∨ u' = .nilIface) ∧ ((∃ k n, v' = .iface k n) ∨ v' = .nilIface) := by
    show (Op.equalIn (9998 + 1 + 1) t u' v').run P w = .ok b w ∧ _
    cases hu with
    | iface t1 h1 =>
      cases hv with
      | iface t2 h2 =>
        refine ⟨?_, by simp, by simp, by simp, by simp, .inl ⟨_, _, rfl⟩, .inl ⟨_, _, rfl⟩⟩
        unfold eqIA at hb
        split at hb
        · rename_i ta a tb b' q1 q2
          simp only [Value.iface.injEq] at q1 q2
          obtain ⟨rfl, rfl⟩ := q1
          obtain ⟨rfl, rfl⟩ := q2
          split at hb
          · rename_i ht
            subst ht
            split at hb
            · rename_i hc
              simp only [Option.some.injEq] at hb; subst hb
              obtain ⟨i, hi, hcmp, hus, hst⟩ := nullTs_spec hc.1
              generalize hga : Value.agg a = ga at h1
              generalize hgb : Value.agg b' = gb at h2
              cases h1 <;> (try (simp only [reduceCtorEq] at hga; done))
              cases h2 <;> (try (simp only [reduceCtorEq] at hgb; done))
              rename_i c1 c1' r1 c2 c2' r2
              unfold Op.equalIn
              simp [run_underlying hd, typeInfo, hi, hcmp]
              unfold Op.equalIn
              simp [run_underlying hus, hst]
            · cases hb
          · rename_i ht
            simp only [Option.some.injEq] at hb; subst hb
            unfold Op.equalIn
            simp [run_underlying hd, ht]
        · rename_i ta a tb b' _ q1 q2
          simp only [Value.iface.injEq] at q1 q2
          obtain ⟨rfl, rfl⟩ := q1
          obtain ⟨rfl, rfl⟩ := q2
          split at hb
          · cases hb
          · rename_i ht
            simp only [Option.some.injEq] at hb; subst hb
            unfold Op.equalIn
            simp [run_underlying hd, ht]
        · rename_i q1 q2; cases q2
        · rename_i q1 q2; cases q1
        · cases hb
      | niliface =>
        simp only [eqIA, Option.some.injEq] at hb; subst hb
        refine ⟨?_, by simp, by simp, by simp, by simp, .inl ⟨_, _, rfl⟩, .inr rfl⟩
        unfold Op.equalIn
        simp [run_underlying hd]
      | _ => simp [eqIA] at hb
    | niliface =>
      cases hv with
      | iface t2 h2 =>
        simp only [eqIA, Option.some.injEq] at hb; subst hb
        refine ⟨?_, by simp, by simp, by simp, by simp, .inr rfl, .inl ⟨_, _, rfl⟩⟩
        unfold Op.equalIn
        simp [run_underlying hd]
      | _ => simp [eqIA] at hb
    | _ => cases hv <;> simp [eqIA] at hb
  obtain ⟨k, hn, _, _, _, hu3, hv3⟩ := key
  rcases hu3 with ⟨k1, n1, rfl⟩ | rfl <;> rcases hv3 with ⟨k2, n2, rfl⟩ | rfl
  · simp [eqGuard, binOp, k]
  · simp [eqGuard, binOp, k]
  · simp [eqGuard, binOp, k]
  · exact (hn rfl rfl).elim

theorem cEq_sound {P : Program} {neg : Bool} {t : TypeId} {d : TypeDesc} (hd : P.underlying t = some d) {x y : Operand} {p : POp} (hc : cEq P neg t d x y = some p) {G : Gh} {ρ : Nat → Value} {a : Act} (e1 : VRel G (ev ρ x) (a.eval x)) (e2 : VRel G (ev ρ y) (a.eval y)) {v : Value} (hp : pop p ρ = some v) :
    ∃ b : Bool, v = .bool (if neg then !b else b) ∧ (∀ w, (do eqGuard .eql t x y (a.eval x) (a.eval y); binOp .eql t (a.eval x) (a.eval y) : Sem Value).run P w = .ok (.bool b) w) ∧
      (∀ w, (do eqGuard .neq t x y (a.eval x) (a.eval y); binOp .neq t (a.eval x) (a.eval y) : Sem Value).run P w = .ok (.bool !b) w) := by
  unfold cEq at hc
  split at hc
  · rename_i hi
    simp only [Option.some.injEq] at hc; subst hc
    simp only [pop] at hp
    split at hp
    · rename_i b hb
      simp only [Option.some.injEq] at hp; subst hp
      cases d <;> simp only [isIface, Bool.false_eq_true] at hi
      exact ⟨b, rfl, fun w => (run_eqi hd e1 e2 hb w x y).1, fun w => (run_eqi hd e1 e2 hb w x y).2⟩
    · cases hp
  · split at hc
    · rename_i e he
      simp only [Option.some.injEq] at hc; subst hc
      simp only [pop] at hp
      split at hp
      · rename_i b hb
        simp only [Option.some.injEq] at hp; subst hp
        exact ⟨b, rfl, fun w => (run_eqv he e1 e2 hb w x y).1, fun w => (run_eqv he e1 e2 hb w x y).2⟩
      · cases hp
    · simp only [Option.map_eq_some_iff] at hc
      obtain ⟨n, he, rfl⟩ := hc
      simp only [pop] at hp
      generalize ev ρ x = u at *
      generalize hu : a.eval x = u' at e1
      generalize ev ρ y = z at *
      generalize hz : a.eval y = z' at e2
      cases e1 <;> (try simp only [reduceCtorEq] at hp)
      cases e2 <;> (try simp only [reduceCtorEq] at hp)
      rename_i c1 c1' h1 c2 c2' h2
      split at hp
      · rename_i p q hp1 hq1
        split at hp
        · rename_i hlen
          simp only [Option.some.injEq] at hp; subst hp
          rw [intsOf_rel h1 (by simpa using hp1)]
          rw [intsOf_rel h2 (by simpa using hq1)]
          exact ⟨_, rfl, fun w => (run_eqs he hlen.1 hlen.2 w x y).1, fun w => (run_eqs he hlen.1 hlen.2 w x y).2⟩
        · cases hp
      · cases hp

theorem pop_sound {P : Program} {o : Oper} {p : POp} (hc : cP P o.op = some p) {G : Gh} {ρ : Nat → Value} {a : Act} (E : ∀ x, x ∈ o.op.operands → VRel G (ev ρ x) (a.eval x)) {v : Value} (hp : pop p ρ = some v) :
    ∃ v', VRel G v v' ∧ YieldsAll P o a v' := by
  obtain ⟨dst, op, type, pos, after, guard⟩ := o
  simp only at hc E
  unfold YieldsAll execOp
  simp only
  cases op <;> simp only [cP, reduceCtorEq] at hc
  case move x =>
    simp only [Option.some.injEq] at hc; subst hc; simp only [pop, Option.some.injEq] at hp; subst hp
    exact ⟨_, E x (by simp [Op.operands]), fun w => by simp⟩
  case assign x =>
    simp only [Option.some.injEq] at hc; subst hc; simp only [pop, Option.some.injEq] at hp; subst hp
    exact ⟨_, E x (by simp [Op.operands]), fun w => by simp⟩
  case pick c x y =>
    simp only [Option.some.injEq] at hc; subst hc
    have e1 := E c (by simp [Op.operands]); have e2 := E x (by simp [Op.operands]); have e3 := E y (by simp [Op.operands])
    simp only [pop] at hp
    generalize ev ρ c = u at *
    generalize hu : a.eval c = u' at e1
    cases e1 <;> simp only [Option.some.injEq, reduceCtorEq] at hp
    rename_i b
    subst hp
    refine ⟨if b then a.eval x else a.eval y, ?_, fun w => ?_⟩
    · cases b <;> simp [e2, e3]
    · cases b <;> simp [asBool, hu]
  case binOp op t x y yt =>
    have e1 := E x (by simp [Op.operands]); have e2 := E y (by simp [Op.operands])
    split at hc
    · simp only [Option.some.injEq] at hc; subst hc
      simp only [pop] at hp
      generalize ev ρ x = u at *
      generalize hu : a.eval x = u' at e1
      generalize ev ρ y = z at *
      generalize hz : a.eval y = z' at e2
      cases e1 <;> (try simp only [reduceCtorEq] at hp)
      cases e2 <;> (try simp only [reduceCtorEq] at hp)
      split at hp
      · rename_i hk
        exact ⟨v, iop_scalar hp G, fun w => by
          have := iop_run hk hp P t w x y
          show Sem.run P ((do eqGuard op t x y (a.eval x) (a.eval y); binOp op t (a.eval x) (a.eval y)) >>= fun v => pure (Next.value v)) w = _
          rw [hu, hz, Sem.run_bind, this]; rfl⟩
      · cases hp
    · rename_i d _ hd
      have fin : ∀ (op' : BinOp) (neg : Bool), op' = (if neg then .neq else .eql) → cEq P neg t d x y = some p → ∃ v', VRel G v v' ∧ ∀ w, (do eqGuard op' t x y (a.eval x) (a.eval y); binOp op' t (a.eval x) (a.eval y) : Sem Value).run P w = .ok v' w := by
        intro op' neg ho hc
        obtain ⟨b, rfl, h1, h2⟩ := cEq_sound hd hc e1 e2 hp
        refine ⟨_, .bool _, fun w => ?_⟩
        cases neg
        · simp only [Bool.false_eq_true, if_false] at ho ⊢; subst ho; exact h1 w
        · simp only [if_true] at ho ⊢; subst ho; exact h2 w
      split at hc
      · obtain ⟨v', q1, q2⟩ := fin .eql false rfl hc
        refine ⟨v', q1, fun w => ?_⟩
        show Sem.run P ((do eqGuard .eql t x y (a.eval x) (a.eval y); binOp .eql t (a.eval x) (a.eval y)) >>= fun v => pure (Next.value v)) w = _
        rw [Sem.run_bind, q2 w]; rfl
      · obtain ⟨v', q1, q2⟩ := fin .neq true rfl hc
        refine ⟨v', q1, fun w => ?_⟩
        show Sem.run P ((do eqGuard .neq t x y (a.eval x) (a.eval y); binOp .neq t (a.eval x) (a.eval y)) >>= fun v => pure (Next.value v)) w = _
        rw [Sem.run_bind, q2 w]; rfl
      · cases hc
    · cases hc
  case unOp op t x =>
    have e1 := E x (by simp [Op.operands])
    cases op <;> simp only [reduceCtorEq, Option.some.injEq] at hc
    · subst hc; simp only [pop] at hp
      generalize ev ρ x = u at *
      generalize hu : a.eval x = u' at e1
      cases e1 <;> simp only [reduceCtorEq, Option.some.injEq] at hp
      subst hp
      exact ⟨_, .int _ _, fun w => by simp [Op.unary, Op.intArith, hu]⟩
    · subst hc; simp only [pop] at hp
      generalize ev ρ x = u at *
      generalize hu : a.eval x = u' at e1
      cases e1 <;> simp only [reduceCtorEq, Option.some.injEq] at hp
      subst hp
      exact ⟨_, .bool _, fun w => by simp [Op.unary, Op.intArith, hu]⟩
  case convert src dst x =>
    have e1 := E x (by simp [Op.operands])
    split at hc
    · rename_i d k hd hk
      simp only [Option.some.injEq] at hc; subst hc
      simp only [pop] at hp
      generalize ev ρ x = u at *
      generalize hu : a.eval x = u' at e1
      cases e1 <;> simp only [reduceCtorEq, Option.some.injEq] at hp
      subst hp
      exact ⟨_, .int _ _, fun w => by simp [convert, run_underlying hd, run_underlying hk, hu, Conv.intToInt]⟩
    · cases hc
  case extract x i =>
    have e1 := E x (by simp [Op.operands])
    simp only [Option.some.injEq] at hc; subst hc
    simp only [pop] at hp
    generalize ev ρ x = u at *
    generalize hu : a.eval x = u' at e1
    cases e1 <;> simp only [reduceCtorEq] at hp
    rename_i c c' hh
    obtain ⟨v', h1, h2⟩ := hh.get i v (by simpa using hp)
    exact ⟨v', h2, fun w => by simp [Instr.extract, h1, hu]⟩
  case nilCheck x =>
    have e1 := E x (by simp [Op.operands])
    simp only [Option.some.injEq] at hc; subst hc
    simp only [pop] at hp
    generalize ev ρ x = u at *
    generalize hu : a.eval x = u' at e1
    cases e1 <;> simp only [reduceCtorEq, Option.some.injEq] at hp
    subst hp
    rename_i h
    exact ⟨_, .ptr _ h, fun w => by simp [hu]⟩
  case fieldAddr s x f =>
    have e1 := E x (by simp [Op.operands])
    split at hc
    · rename_i fs hfs
      split at hc
      · rename_i fd hf
        split at hc
        · rename_i n hs
          simp only [Option.some.injEq] at hc; subst hc
          simp only [pop] at hp
          generalize ev ρ x = u at *
          generalize hu : a.eval x = u' at e1
          cases e1 <;> simp only [reduceCtorEq, Option.some.injEq] at hp
          subst hp
          rename_i h
          exact ⟨_, .ptr _ h, fun w => by simp [Instr.fieldAt, run_underlying hfs, hf, Instr.sureAddr, hu, fieldPlace, szOf_run hs, Addr.add_eq]⟩
        · cases hc
      · cases hc
    · cases hc
  case indexAddr t x i =>
    have e1 := E x (by simp [Op.operands]); have e2 := E i (by simp [Op.operands])
    split at hc
    · rename_i e ht
      cases hs : szOf P e with
      | none => simp [hs] at hc
      | some s =>
        simp only [hs, Option.map_some, Option.some.injEq] at hc; subst hc
        simp only [pop] at hp
        generalize ev ρ x = u at *
        generalize hu : a.eval x = u' at e1
        generalize ev ρ i = z at *
        generalize hz : a.eval i = z' at e2
        cases e2 <;> (try (cases e1 <;> simp only [reduceCtorEq] at hp; done))
        rename_i k n
        cases e1 <;> simp only [reduceCtorEq] at hp <;> split at hp <;> (try (cases hp; done)) <;> rename_i hb <;> simp only [Option.some.injEq] at hp <;> subst hp <;>
          obtain ⟨hb1, hb2⟩ := hb <;>
          first
            | (rename_i h; exact ⟨_, .ptr _ h, fun w => by simp [Instr.indexAt, asIntOf, run_underlying ht, szOf_run hs, Addr.add_eq, hu, hz, hb1, hb2]⟩)
            | (rename_i h _; exact ⟨_, .ptr _ h, fun w => by simp [Instr.indexAt, asIntOf, run_underlying ht, szOf_run hs, Addr.add_eq, hu, hz, hb1, hb2]⟩)
            | (exfalso; omega)
    · rename_i n e ht
      split at hc
      · rename_i h2
        cases hs : szOf P e with
        | none => simp [hs] at hc
        | some s =>
          simp only [hs, Option.map_some, Option.some.injEq] at hc; subst hc
          simp only [pop] at hp
          generalize ev ρ x = u at *
          generalize hu : a.eval x = u' at e1
          generalize ev ρ i = z at *
          generalize hz : a.eval i = z' at e2
          cases e1 <;> (try simp only [reduceCtorEq] at hp)
          cases e2 <;> (try simp only [reduceCtorEq] at hp)
          split at hp
          · rename_i h _ _ hb
            obtain ⟨hb1, hb2⟩ := hb
            simp only [Option.some.injEq] at hp; subst hp
            exact ⟨_, .ptr _ h, fun w => by simp [Instr.indexAt, asIntOf, run_underlying ht, szOf_run hs, Addr.add_eq, hu, hz, hb1, hb2, Instr.sureAddr]⟩
          · cases hp
      · cases hc
    · cases hc
  case build t parts =>
    split at hc
    · rename_i fs z ht hz
      split at hc
      · rename_i hzok
        cases hsp : structParts P fs parts.toList with
        | none => simp [hsp] at hc
        | some m =>
          simp only [hsp, Option.map_some, Option.some.injEq] at hc; subst hc
          simp only [pop] at hp
          split at hp
          · rename_i cs hcs
            simp only [Option.some.injEq] at hp; subst hp
            obtain ⟨i, zv, hi, hiz, hzv, hzr⟩ := zeroOf_run hz
            have hfs : ∀ f ∈ fs.toList, ∃ s, szOf P f.type = some s := fun f hf => Option.isSome_iff_exists.1 ((List.all_eq_true.1 hzok.2) f hf)
            obtain ⟨r, h1, h2⟩ := mapM_places (P := P) fs.toList hfs
            have hpl : ∀ (i : Nat) (f : Field), fs[i]? = some f → ∀ s, szOf P f.type = some s → r.toArray[i]? = some (f.offset, s) := fun i f hf s hs => by
              simpa using h2 i f (by simpa using hf) s hs
            obtain ⟨q1, q2⟩ := structParts_rel hpl parts.toList m hsp (fun x hx => E x.2 (by simp [Op.operands]; exact ⟨x.1, by simpa using hx⟩))
            obtain ⟨C', e1, e2⟩ := fill_rel (G := G) (r.toArray[·]?) _ _ z zv.cells cs (by rw [hzv]; exact cellOk.rels (low0 G) hzok.1) q1 q2 hcs
            refine ⟨.agg C', by have := VRel.agg e2; simpa using this, fun w => ?_⟩
            have e3 : (parts.map fun p => (p.1, a.eval p.2)).toList = parts.toList.map fun p => (p.1, a.eval p.2) := by simp
            simp only [List.getElem?_toArray] at e1
            simp [Instr.build, hzr, run_underlying ht, Array.mapM_eq_mapM_toList, h1, e1]
          · cases hp
      · cases hc
    · cases hc
  case slice t x lo hi mx =>
    have e1 := E x (by simp [Op.operands])
    split at hc
    · rename_i e ht
      cases hs : szOf P e with
      | none => simp [hs] at hc
      | some s =>
        simp only [hs, Option.map_some, Option.some.injEq] at hc; subst hc
        simp only [pop] at hp
        obtain ⟨v', h1, h2⟩ := slice_sound ht hs e1 (fun y hy => E y (by simp [Op.operands, hy])) (fun y hy => E y (by simp [Op.operands, hy])) (fun y hy => E y (by simp [Op.operands, hy])) hp
        exact ⟨v', h1, fun w => by simp [h2]⟩
    · cases hc
  case makeFunc fn first captured =>
    split at hc <;> simp only [reduceCtorEq, Op.makeFunc.injEq] at *
    rename_i f first' captured' he
    obtain ⟨rfl, rfl, rfl⟩ := he
    simp only [Option.some.injEq] at hc; subst hc
    simp only [pop, Option.some.injEq] at hp; subst hp
    have h1 := VRels.map_ev (G := G) (ρ := ρ) (a := a) (l := first.toList) (fun x hx => E x (by simp [Op.operands]; exact .inl (by simpa using hx)))
    have h2 := VRels.map_ev (G := G) (ρ := ρ) (a := a) (l := captured.toList) (fun x hx => E x (by simp [Op.operands]; exact .inr (by simpa using hx)))
    exact ⟨_, .func f h1 h2, fun w => by simp [Instr.makeFunc, ← Array.toList_map]⟩
  case makeInterface t x =>
    have e1 := E x (by simp [Op.operands])
    split at hc
    · rename_i hcon
      simp only [Option.some.injEq] at hc; subst hc
      simp only [pop, Option.some.injEq] at hp; subst hp
      exact ⟨_, .iface t e1, fun w => by simp [run_makeInterface w t (a.eval x) hcon]⟩
    · cases hc
  case typeAssert x xt t ok =>
    have e1 := E x (by simp [Op.operands])
    split at hc
    · rename_i d z hd hz
      split at hc
      · rename_i hi
        simp only [Option.some.injEq] at hc; subst hc
        simp only [pop] at hp
        have hzz : ∀ w, (zeroValue t).run P w = .ok z w := fun w => by
          cases hinf : P.info? t with
          | none => simp [hinf] at hz
          | some i =>
            simp only [hinf, Option.bind_some] at hz
            simp [zeroValue, typeInfo, hinf, hz]
        have hnif : ∀ ms, d ≠ .interface ms := fun ms e => by subst e; simp [isIface] at hi
        generalize hx : a.eval x = x' at e1
        generalize ev ρ x = u at *
        have two : ∀ {v1 v2 : Value}, VRel G v1 v2 → ∀ b, VRel G (.tuple #[v1, .bool b]) (.tuple #[v2, .bool b]) := fun h b => VRel.tuple (c := [_, _]) (c' := [_, _]) (.cons h (.cons (.bool b) .nil))
        cases e1 <;> simp only [tasA, reduceCtorEq] at hp
        case niliface =>
          split at hp
          · rename_i hok
            subst hok
            simp only [Option.some.injEq] at hp; subst hp
            refine ⟨_, two (VRel.const hi.2) false, fun w => ?_⟩
            cases d <;> first | exact absurd rfl (hnif _) | simp [Instr.typeAssert, run_underlying hd, hzz, hx]
          · cases hp
        case iface t1 v1 v1' h1 =>
          split at hp
          · rename_i ht
            subst ht
            simp only [Option.some.injEq] at hp; subst hp
            refine ⟨if ok then .tuple #[v1', .bool true] else v1', ?_, fun w => ?_⟩
            · cases ok
              · exact h1
              · exact two h1 true
            · cases d <;> first | exact absurd rfl (hnif _) | (cases ok <;> simp [Instr.typeAssert, run_underlying hd, hzz, hx])
          · rename_i ht
            split at hp
            · rename_i hok
              subst hok
              simp only [Option.some.injEq] at hp; subst hp
              refine ⟨_, two (VRel.const hi.2) false, fun w => ?_⟩
              cases d <;> first | exact absurd rfl (hnif _) | simp [Instr.typeAssert, run_underlying hd, hzz, hx, ht]
            · cases hp
      · cases hc
    · cases hc
  case panic x =>
    simp only [Option.some.injEq] at hc; subst hc
    simp only [pop, reduceCtorEq] at hp
  case call c =>
    obtain ⟨callee, args, argTypes⟩ := c
    cases callee with
    | value f => simp only [reduceCtorEq] at hc
    | invoke r m => simp only [reduceCtorEq] at hc
    | builtin b =>
      have two : ∀ x y, args.toList = [x, y] → args = #[x, y] := fun x y h => by rw [← h]
      cases b <;> simp only [reduceCtorEq] at hc
      case len =>
        split at hc
        · rename_i x e hx ht
          simp only [Option.some.injEq] at hc; subst hc
          have hargs : args = #[x] := by rw [← hx]
          subst hargs
          have e1 := E x (by simp [Op.operands, Call.operands])
          simp only [pop] at hp
          generalize ev ρ x = u at *
          generalize hu : a.eval x = u' at e1
          obtain ⟨t, h1, h2⟩ := Option.bind_eq_some_iff.1 ht
          cases e1 <;> simp only [reduceCtorEq, Option.some.injEq] at hp <;> subst hp <;>
            exact ⟨_, .int _ _, fun w => by simp [resolve, invoke, builtin, Builtin.len_, h1, run_underlying h2, hu, goInt]⟩
        · cases hc
      case min =>
        split at hc
        · rename_i x y hx
          simp only [Option.some.injEq] at hc; subst hc
          have hargs := two x y hx
          subst hargs
          have e1 := E x (by simp [Op.operands, Call.operands]); have e2 := E y (by simp [Op.operands, Call.operands])
          simp only [pop] at hp
          generalize ev ρ x = u at *
          generalize hu : a.eval x = u' at e1
          generalize ev ρ y = z at *
          generalize hz : a.eval y = z' at e2
          cases e1 <;> (try simp only [reduceCtorEq] at hp)
          cases e2 <;> (try simp only [reduceCtorEq] at hp)
          simp only [Option.some.injEq] at hp; subst hp
          exact ⟨_, .int _ _, fun w => by simp [resolve, invoke, builtin, Builtin.min_, Builtin.min2, hu, hz]⟩
        · cases hc
      case max =>
        split at hc
        · rename_i x y hx
          simp only [Option.some.injEq] at hc; subst hc
          have hargs := two x y hx
          subst hargs
          have e1 := E x (by simp [Op.operands, Call.operands]); have e2 := E y (by simp [Op.operands, Call.operands])
          simp only [pop] at hp
          generalize ev ρ x = u at *
          generalize hu : a.eval x = u' at e1
          generalize ev ρ y = z at *
          generalize hz : a.eval y = z' at e2
          cases e1 <;> (try simp only [reduceCtorEq] at hp)
          cases e2 <;> (try simp only [reduceCtorEq] at hp)
          simp only [Option.some.injEq] at hp; subst hp
          exact ⟨_, .int _ _, fun w => by simp [resolve, invoke, builtin, Builtin.max_, Builtin.max2, hu, hz]⟩
        · cases hc

end Go.AM
