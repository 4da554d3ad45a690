/- The heart of the walks: Go code turned by a plain function into a tree of its effects, and a proof that what holds of the tree holds of the code. -/
import Derived.OrdersIn
import Derived.TacticsIn
import Derived.Below
import Derived.Laws.CopyRow
import Derived.Laws.Cells
import Derived.WalkKit
namespace Go.Xe
open Go

abbrev Hp := Array Obj
abbrev Env := Nat → Value

structure TI where
  desc : TypeDesc
  zero : Value
  size : Nat
  bytes : Nat

abbrev Lay := Nat → Option TI

structure LayOk (L : Lay) (P : Program) : Prop where
  und : ∀ T i, L T = some i → P.underlying T = some i.desc
  inf : ∀ T i, L T = some i → ∃ x, P.info? T = some x ∧ x.zero = some i.zero ∧ x.size = i.size ∧ x.bytes = i.bytes
  zsz : ∀ T i, L T = some i → i.zero.cells.size = i.size
  fld : ∀ T i fs, L T = some i → i.desc = .struct fs → ∀ f, f ∈ fs.toList → ∃ j, L f.type = some j

structure St where
  ρ : Env
  ds : List Deferred

def upd (ρ : Env) (d : Nat) (v : Value) : Env := fun t => bif Nat.beq t d then v else ρ t

def St.put (s : St) : Option Nat → Value → St
  | some d, v => ⟨upd s.ρ d v, s.ds⟩
  | none, _ => s

def ev (ρ : Env) : Operand → Value
  | .tmp t => ρ t
  | .const v => v
  | .global g => .pointer (some ⟨g, 0, none⟩)
  | .func f => .func (.func f) #[] #[]

/-- what one operation does -/
inductive Cl
  | bad
  | pure (v : Value)
  | chk (p : Prop) (v : Value)
  | br (c : Bool) (x y : Value)
  | load (b o : Nat) (i : TI)
  | store (b o : Nat) (i : TI) (v : Value)
  | new (T : Nat) (cells : Array Value) (out : Nat → Value)
  | call (f : Nat) (args : Array Value)
  | round (l : Nat) (args : Array Value)
  | sem (s : Sem Value)
  | semU (s : Sem Unit)

inductive X : Type
  | fail
  | done (e : Exit) (s : St)
  | chk (p : Prop) (x : X)
  | br (c : Bool) (x y : X)
  | both (x y : X)
  | load (b o : Nat) (i : TI) (k : Value → X)
  | store (b o : Nat) (i : TI) (v : Value) (x : X)
  | new (T : Nat) (cells : Array Value) (k : Nat → X)
  | call (e : Option (List Nat)) (f : Nat) (args : Array Value) (k : Value → X)
  | round (l : Nat) (args : Array Value) (k : Value → X)
  | sem (e : Option (List Nat)) (s : Sem Value) (k : Value → X)
  | semU (e : Option (List Nat)) (s : Sem Unit) (x : X)
  | loop (c : Code) (s : St) (k : Exit → St → X)
  | rangeF (g : Operand) (ps : Array Tmp) (as bd : Code) (s : St) (k : Exit → St → X)
  | draw (id : Nat) (ops : Array Oper) (s : St) (k : St → X)

structure Ctx (c w : World) : Prop where
  os : w.os = c.os
  tape : w.tape = c.tape
  output : w.output = c.output

structure Chg (M : List Nat) (h h' : Hp) : Prop where
  size : h.size ≤ h'.size
  same : ∀ b, b < h.size → b ∉ M → h'[b]? = h[b]?

theorem Chg.refl (M : List Nat) (h : Hp) : Chg M h h := ⟨Nat.le_refl _, fun _ _ _ => rfl⟩
theorem Chg.trans {M : List Nat} {a b c : Hp} (x : Chg M a b) (y : Chg M b c) : Chg M a c :=
  ⟨Nat.le_trans x.size y.size, fun k hk hm => (y.same k (Nat.lt_of_lt_of_le hk x.size) hm).trans (x.same k hk hm)⟩
theorem Chg.mono {M M' : List Nat} {a b : Hp} (x : Chg M a b) (h : ∀ k, k ∈ M → k ∈ M') : Chg M' a b :=
  ⟨x.size, fun k hk hm => x.same k hk (fun hh => hm (h k hh))⟩
theorem Chg.of {M : List Nat} {h h' : Hp} (x : Chg M h h') {b : Nat} {o : Obj} (hb : h[b]? = some o) (hm : b ∉ M) : h'[b]? = some o :=
  (x.same b (Array.getElem?_eq_some_iff.1 hb).1 hm).trans hb

/-- what is asked of an operation that others may come ahead of: it changes nothing but D -/
def Kp : Option (List Nat) → Hp → Hp → Prop
  | none, _, _ => True
  | some D, h, h' => Chg D h h'
theorem Kp.refl (e : Option (List Nat)) (h : Hp) : Kp e h h := by cases e <;> first | trivial | exact Chg.refl _ _
theorem Kp.of (e : Option (List Nat)) {h h' : Hp} (x : Chg [] h h') : Kp e h h' := by cases e <;> first | trivial | exact x.mono (fun _ hk => by cases hk)

def Ret (R : Value → World → Prop) : Ending → World → Prop
  | .returned v, w => R v w
  | _, _ => False

/-- a call, said of heaps alone -/
def Call (c : World) (P : Program) (f : Nat) (args : Array Value) (h : Hp) (R : Value → Hp → Prop) : Prop :=
  (∀ as w, (callFunc f as).run P w = .ok (.enter f as) w) ∧ ∀ w, w.heap = h → Ctx c w → Calls P f args w (Ret fun v w' => Ctx c w' ∧ R v w'.heap)

theorem Call.mono {c : World} {P : Program} {f : Nat} {args : Array Value} {h : Hp} {R R' : Value → Hp → Prop} (x : Call c P f args h R) (y : ∀ v h', R v h' → R' v h') :
    Call c P f args h R' := ⟨x.1, fun w hw hc => (x.2 w hw hc).mono fun e w' he => by
  cases e <;> first | exact ⟨he.1, y _ _ he.2⟩ | exact he⟩

/-- reading a variable of type i at o -/
def rd (cs : List Value) (o : Nat) (i : TI) : Option Value :=
  match i.desc with
  | .struct _ | .array _ _ => bif Nat.ble (o + i.size) cs.length then some (.agg ((cs.drop o).take i.size).toArray) else none
  | _ => cs[o]?

def Ld (h : Hp) (b o : Nat) (i : TI) (v : Value) : Prop :=
  ∃ cs T fz, h[b]? = some (.cells cs T fz) ∧ rd cs.toList o i = some v

/-- the cells cs with vs laid at o -/
def wrAt : List Value → Nat → List Value → List Value
  | cs, _, [] => cs
  | [], _, _ => []
  | _ :: cs, 0, v :: vs => v :: wrAt cs 0 vs
  | c :: cs, o + 1, vs => c :: wrAt cs o vs

def Rel (n : Nat) (a : Act) (s : St) : Prop := a.tmps.size = n ∧ a.defers = s.ds ∧ ∀ t, a.tmps.getD t undef = s.ρ t

def Fe (ro : Option Nat) : Fence := { Fence.wide with round := ro }

/-! which temporaries a body may write -/
def opsMod : List Oper → Nat → Bool
  | [], _ => false
  | o :: l, t => (match o.dst with | some d => Nat.beq d t | none => false) || opsMod l t

def modB : Code → Nat → Bool
  | .region _ ops _, t => opsMod ops.toList t
  | .seq a b, t => modB a t || modB b t
  | .cond _ a b, t => modB a t || modB b t
  | .block _ a, t => modB a t
  | .loop a, t => modB a t
  | .scope a, t => modB a t
  | _, _ => false

def memN : List Nat → Nat → Bool
  | [], _ => false
  | v :: l, t => Nat.beq v t || memN l t

def inM (vs : List Nat) (lo hi d : Nat) : Bool := (Nat.ble lo d && Nat.ble d hi) || memN vs d

def opsIn (vs : List Nat) (lo hi : Nat) : List Oper → Bool
  | [] => true
  | o :: l => (match o.dst with | some d => inM vs lo hi d | none => true) && opsIn vs lo hi l

def modsIn (vs : List Nat) (lo hi : Nat) : Code → Bool
  | .region _ ops _ => opsIn vs lo hi ops.toList
  | .seq a b => modsIn vs lo hi a && modsIn vs lo hi b
  | .cond _ a b => modsIn vs lo hi a && modsIn vs lo hi b
  | .block _ a => modsIn vs lo hi a
  | .loop a => modsIn vs lo hi a
  | .scope a => modsIn vs lo hi a
  | _ => true

/-- outside of M the two are the same -/
def Agr (M : Nat → Bool) (s s' : St) : Prop := ∀ t, M t = false → s'.ρ t = s.ρ t

section wp
variable (c : World) (P : Program) (ro : Option Nat) (n : Nat)

def X.wp : X → Hp → (Exit → St → Hp → Prop) → Prop
  | .fail, _, _ => False
  | .done e s, h, Q => Q e s h
  | .chk p x, h, Q => p ∧ x.wp h Q
  | .br b x y, h, Q => (b = true → x.wp h Q) ∧ (b = false → y.wp h Q)
  | .both x y, h, Q => x.wp h Q ∧ y.wp h Q
  | .load b o i k, h, Q => ∃ v, Ld h b o i v ∧ (k v).wp h Q
  | .store b o i v x, h, Q => ∃ cs T, h[b]? = some (.cells cs T (0, 0)) ∧ v.cells.size = i.size ∧ o + i.size ≤ cs.size ∧ (∀ u ∈ v.cells.toList, u.oneCell' = true) ∧
      ∀ h', h'.size = h.size → h'[b]? = some (.cells (wrAt cs.toList o v.cells.toList).toArray T (0, 0)) → (∀ j, j ≠ b → h'[j]? = h[j]?) → x.wp h' Q
  | .new T cells k, h, Q => (k h.size).wp (h.push (.cells cells T)) Q
  | .call e f args k, h, Q => Call c P f args h fun v h' => Kp e h h' ∧ (k v).wp h' Q
  | .round l args k, h, Q => ∀ w, w.heap = h → Ctx c w → ∃ f tmps as bd, (Instr.yield l args).run P w = .ok (.round l f tmps as bd) w ∧
      RoundIn (Fe ro) 0 P l f tmps as bd w (Ret fun v w' => Ctx c w' ∧ (k v).wp w'.heap Q)
  | .sem e s k, h, Q => ∀ w, w.heap = h → Ctx c w → ∃ v w', s.run P w = .ok v w' ∧ Ctx c w' ∧ Kp e h w'.heap ∧ (k v).wp w'.heap Q
  | .semU e s x, h, Q => ∀ w, w.heap = h → Ctx c w → ∃ v w', s.run P w = .ok v w' ∧ Ctx c w' ∧ Kp e h w'.heap ∧ x.wp w'.heap Q
  | .loop cd s k, h, Q => ∀ w a, w.heap = h → Ctx c w → Rel n a s → (Code.loop cd).wpIn (Fe ro) 0 P (fun e a' w' => ∃ s', Rel n a' s' ∧ Agr (modB cd) s s' ∧ s'.ds = s.ds ∧ Ctx c w' ∧ (k e s').wp w'.heap Q) a w
  | .rangeF g ps as bd s k, h, Q => ∀ w a, w.heap = h → Ctx c w → Rel n a s → (Code.rangeFunc g ps as bd).wpIn (Fe ro) 0 P (fun e a' w' => ∃ s', Rel n a' s' ∧ Agr (fun _ => false) s s' ∧ Ctx c w' ∧ (k e s').wp w'.heap Q) a w
  | .draw id ops s k, h, Q => ∀ w a, w.heap = h → Ctx c w → Rel n a s → (Code.region id ops true).wpIn (Fe ro) 0 P (fun e a' w' => ∃ s', e = .normal ∧ Rel n a' s' ∧ Agr (opsMod ops.toList) s s' ∧ s'.ds = s.ds ∧ Ctx c w' ∧ (k s').wp w'.heap Q) a w
end wp

/-! ### what an operation does -/
def fieldOf (i : TI) (f : Nat) : Option Field :=
  match i.desc with
  | .struct fs => fs[f]?
  | _ => none

def cmpI : BinOp → Int → Int → Option Bool
  | .eql, x, y => some (x == y)
  | .neq, x, y => some (x != y)
  | .lss, x, y => some (decide (x < y))
  | .leq, x, y => some (decide (x ≤ y))
  | .gtr, x, y => some (decide (x > y))
  | .geq, x, y => some (decide (x ≥ y))
  | _, _, _ => none


def bitsI (op : BinOp) (k : IntKind) (x y : Int) : Option Int :=
  match op with
  | .and => some (k.wrap (BitVec.ofInt k.bits x &&& BitVec.ofInt k.bits y).toNat)
  | .or => some (k.wrap (BitVec.ofInt k.bits x ||| BitVec.ofInt k.bits y).toNat)
  | .xor => some (k.wrap (BitVec.ofInt k.bits x ^^^ BitVec.ofInt k.bits y).toNat)
  | .andNot => some (k.wrap (BitVec.ofInt k.bits x &&& ~~~(BitVec.ofInt k.bits y)).toNat)
  | _ => none

def byteAt (s : ByteArray) (i : Int) : Int := ((s.data[i.toNat]?).getD 0).toNat

def clInt (op : BinOp) (k : IntKind) (x y : Int) : Cl :=
  match op with
  | .add => .pure (.int k (k.wrap (x + y)))
  | .sub => .pure (.int k (k.wrap (x - y)))
  | .mul => .pure (.int k (k.wrap (x * y)))
  | .quo => .chk (y ≠ 0) (.int k (k.wrap (x.tdiv y)))
  | .rem => .chk (y ≠ 0) (.int k (x.tmod y))
  | .shl => .chk (0 ≤ y) (.int k (k.wrap (x * 2 ^ min y.toNat k.bits)))
  | .shr => .chk (0 ≤ y) (.int k (x.fdiv (2 ^ min y.toNat k.bits)))
  | .eql => .pure (.bool (x == y))
  | .neq => .pure (.bool (x != y))
  | .lss => .pure (.bool (decide (x < y)))
  | .leq => .pure (.bool (decide (x ≤ y)))
  | .gtr => .pure (.bool (decide (x > y)))
  | .geq => .pure (.bool (decide (x ≥ y)))
  | op => match bitsI op k x y with
    | some z => .pure (.int k z)
    | none => .bad

def clStr (op : BinOp) (x y : ByteArray) : Cl :=
  match op with
  | .add => .chk (((x.size + y.size : Nat) : Int) ≤ IntKind.i64.max) (.string (x ++ y))
  | .eql => .pure (.bool (x.toList == y.toList))
  | .neq => .pure (.bool (!(x.toList == y.toList)))
  | .lss => .pure (.bool (Op.bytesLess x.toList y.toList))
  | .leq => .pure (.bool (Op.bytesLess x.toList y.toList || x.toList == y.toList))
  | .gtr => .pure (.bool (!(Op.bytesLess x.toList y.toList || x.toList == y.toList)))
  | .geq => .pure (.bool (!Op.bytesLess x.toList y.toList))
  | _ => .bad

def isShift : BinOp → Bool
  | .shl | .shr => true
  | _ => false

def sameK : IntKind → IntKind → Bool
  | .i64, .i64 | .u8, .u8 | .u64, .u64 | .i8, .i8 | .i16, .i16 | .i32, .i32 | .u16, .u16 | .u32, .u32 => true
  | _, _ => false

/-- a test against nil, of a pointer or of a slice -/
def clNil (op : BinOp) (b : Bool) : Cl :=
  match op with
  | .eql => .pure (.bool b)
  | .neq => .pure (.bool (!b))
  | _ => .bad

def clBin (L : Lay) (op : BinOp) (T : Nat) (xo yo : Operand) (x y : Value) : Cl :=
  match x, y with
  | .int k a, .int k' b => bif isShift op then clInt op k a b else bif sameK k k' then clInt op k a b else .bad
  | .string a, .string b => clStr op a b
  | .bool a, .bool b => match L T, op with
    | some ⟨.bool, _, _, _⟩, .eql => .pure (.bool (a == b))
    | some ⟨.bool, _, _, _⟩, .neq => .pure (.bool (!(a == b)))
    | _, _ => .bad
  | .pointer none, .pointer p => match L T with
    | some ⟨.pointer _, _, _, _⟩ => clNil op p.isNone
    | _ => .bad
  | .pointer (some _), .pointer none => match L T with
    | some ⟨.pointer _, _, _, _⟩ => clNil op false
    | _ => .bad
  | .slice none _ _, .slice p _ _ => match L T with
    | some ⟨.slice _, _, _, _⟩ => clNil op p.isNone
    | _ => .bad
  | .slice (some _) _ _, .slice none _ _ => match L T with
    | some ⟨.slice _, _, _, _⟩ => clNil op false
    | _ => .bad
  | x, y => .sem (do eqGuard op T xo yo x y; binOp op T x y)

def clLen (L : Lay) (ts : List Nat) (x : Value) : Cl :=
  match ts with
  | [T] => match L T, x with
    | some ⟨.string, _, _, _⟩, .string s => .pure (.int .i64 s.size)
    | some ⟨.slice _, _, _, _⟩, .slice _ n _ => .pure (.int .i64 n)
    | some ⟨.array n _, _, _, _⟩, _ => .pure (.int .i64 n)
    | _, _ => .bad
  | _ => .bad

def clIndexAddr (L : Lay) (T : Nat) (x ix : Value) : Cl :=
  match ix with
  | .int _ i => match L T, x with
    | some ⟨.slice e, _, _, _⟩, .slice (some ⟨b, o, none⟩) len _ => match L e with
      | some t => .chk (0 ≤ i ∧ i < len) (.pointer (some ⟨b, o + i.toNat * t.size, none⟩))
      | none => .bad
    | some ⟨.array len e, _, _, _⟩, .pointer (some ⟨b, o, none⟩) => match L e with
      | some t => .chk (0 ≤ i ∧ i < len) (.pointer (some ⟨b, o + i.toNat * t.size, none⟩))
      | none => .bad
    | _, _ => .bad
  | _ => .bad

def clIndex (L : Lay) (T : Nat) (x ix : Value) : Cl :=
  match ix with
  | .int _ i => match L T, x with
    | some ⟨.string, _, _, _⟩, .string s => .chk (0 ≤ i ∧ i < s.size) (.int .u8 (byteAt s i))
    | _, _ => .bad
  | _ => .bad

def clField (L : Lay) (T : Nat) (x : Value) (f : Nat) : Cl :=
  match L T, x with
  | some t, .agg cs => match fieldOf t f with
    | some fd => match L fd.type with
      | some ft => match rd cs.toList fd.offset ft with
        | some v => .pure v
        | none => .bad
      | none => .bad
    | none => .bad
  | _, _ => .bad

def clFieldAddr (L : Lay) (T : Nat) (x : Value) (f : Nat) : Cl :=
  match x, L T with
  | .pointer (some ⟨b, o, none⟩), some t => match fieldOf t f with
    | some fd => match L fd.type with
      | some ft => bif Nat.beq ft.size 0 then .bad else .pure (.pointer (some ⟨b, o + fd.offset, none⟩))
      | none => .bad
    | none => .bad
  | _, _ => .bad

def lenAll : List (Nat × Value) → Bool
  | [] => true
  | _ :: l => lenAll l

/-- the parts of a struct or an array, each at its place; none: they do not fit -/
def bldS (L : Lay) (fs : Array Field) (cs : List Value) : List (Nat × Value) → Option (List Value)
  | [] => some cs
  | (i, v) :: rest => match fs[i]? with
    | some fd => match L fd.type with
      | some ft => bif Nat.beq v.cells.size ft.size && Nat.ble (fd.offset + ft.size) cs.length then bldS L fs (wrAt cs fd.offset v.cells.toList) rest else none
      | none => none
    | none => none

def bldA (size : Nat) (cs : List Value) : List (Nat × Value) → Option (List Value)
  | [] => some cs
  | (i, v) :: rest => bif Nat.beq v.cells.size size && Nat.ble (i * size + size) cs.length then bldA size (wrAt cs (i * size) v.cells.toList) rest else none

def clBuild (L : Lay) (T : Nat) (ps : List (Nat × Value)) : Cl :=
  match L T with
  | some t => match t.desc with
    | .struct fs => match bldS L fs t.zero.cells.toList ps with
      | some cs => .pure (.agg cs.toArray)
      | none => .bad
    | .array _ e => match L e with
      | some et => match bldA et.size t.zero.cells.toList ps with
        | some cs => .pure (.agg cs.toArray)
        | none => .bad
      | none => .bad
    | _ => .bad
  | none => .bad

def repl : Nat → List Value → List Value
  | 0, _ => []
  | n + 1, l => l ++ repl n l

def clBuildSlice (L : Lay) (T n : Nat) (ps : List (Nat × Value)) : Cl :=
  match L T with
  | some ⟨.slice e, _, _, _⟩ => match L e with
    | some et => bif Nat.ble (n * et.size) 16777216 then (match bldA et.size (repl n et.zero.cells.toList) ps with
      | some cs => .new e cs.toArray fun b => .slice (some ⟨b, 0, none⟩) n n
      | none => .bad) else .bad
    | none => .bad
  | _ => .bad

def clSlice (L : Lay) (T : Nat) (x : Value) (lo hi mx : Option Value) : Cl :=
  match L T, x, mx with
  | some ⟨.slice e, _, _, _⟩, .slice a len cap, none => match L e with
    | some t => match lo, hi with
      | none, some (.int _ j) => .chk (0 ≤ j ∧ j ≤ cap) (.slice a j.toNat cap)
      | some (.int _ i), none => .chk (0 ≤ i ∧ i ≤ len) (.slice (if cap = i.toNat then a else a.map (·.add (i.toNat * t.size))) (len - i.toNat) (cap - i.toNat))
      | some (.int _ i), some (.int _ j) => .chk ((0 ≤ j ∧ j ≤ cap) ∧ 0 ≤ i ∧ i ≤ j) (.slice (if cap = i.toNat then a else a.map (·.add (i.toNat * t.size))) (j.toNat - i.toNat) (cap - i.toNat))
      | none, none => .pure (.slice a len cap)
      | _, _ => .bad
    | none => .bad
  | some ⟨.string, _, _, _⟩, .string s, none => match lo, hi with
      | none, some (.int _ j) => .chk (0 ≤ j ∧ j ≤ s.size) (.string (s.extract 0 j.toNat))
      | some (.int _ i), none => .chk (0 ≤ i ∧ i ≤ s.size) (.string (s.extract i.toNat s.size))
      | some (.int _ i), some (.int _ j) => .chk ((0 ≤ j ∧ j ≤ s.size) ∧ 0 ≤ i ∧ i ≤ j) (.string (s.extract i.toNat j.toNat))
      | _, _ => .bad
  | _, _, _ => .bad

def clMake (T : Nat) (l cap : Value) : Cl :=
  .sem (Instr.makeSlice T l cap)

def clUn (op : UnOp) (x : Value) : Cl :=
  match op, x with
  | .not, .bool b => .pure (.bool (!b))
  | .neg, .int k n => .pure (.int k (k.wrap (0 - n)))
  | _, _ => .bad

def clConv (L : Lay) (dst : Nat) (src : Nat) (x : Value) : Cl :=
  match L src, L dst, x with
  | some _, some ⟨.int k, _, _, _⟩, .int _ n => .pure (.int k (k.wrap n))
  | some _, some ⟨.string, _, _, _⟩, .string s => .pure (.string s)
  | _, _, _ => .bad

def clCall (L : Lay) (ρ : Operand → Value) (T : Nat) (cl : Go.Call) : Cl :=
  match cl.callee with
  | .value f => match ρ f with
    | .func (.func g) first cap => .call g (first.toList ++ cl.args.toList.map ρ ++ cap.toList).toArray
    | .func (.yield l) first _ => .round l (first.toList ++ cl.args.toList.map ρ).toArray
    | _ => .bad
  | .builtin .len => match cl.args.toList with
    | [x] => clLen L cl.argTypes.toList (ρ x)
    | _ => .bad
  | .builtin .append => .sem (Builtin.append_ cl.argTypes T (cl.args.map ρ))
  | .builtin .copy => .sem (Builtin.copy_ cl.argTypes T (cl.args.map ρ))
  | .builtin .clear => .sem (Builtin.clear_ cl.argTypes T (cl.args.map ρ))
  | .builtin .min => .sem (Builtin.min_ cl.argTypes T (cl.args.map ρ))
  | .builtin .max => .sem (Builtin.max_ cl.argTypes T (cl.args.map ρ))
  | .builtin .delete => .sem (Builtin.delete_ cl.argTypes T (cl.args.map ρ))
  | _ => .bad

def nthV : List Value → Nat → Option Value
  | [], _ => none
  | v :: _, 0 => some v
  | _ :: l, i + 1 => nthV l i

def cl (L : Lay) (ρ : Operand → Value) (o : Oper) : Cl :=
  match o.op with
  | .move x | .assign x => .pure (ρ x)
  | .pick c a b => match ρ c with
    | .bool t => .br t (ρ a) (ρ b)
    | _ => .bad
  | .nilCheck x => match ρ x with
    | .pointer (some a) => .pure (.pointer (some a))
    | .func (.func g) fi ca => .pure (.func (.func g) fi ca)
    | .func (.yield g) fi ca => .pure (.func (.yield g) fi ca)
    | _ => .bad
  | .alloc T => match L T with
    | some t => .new T t.zero.cells fun b => .pointer (some ⟨b, 0, none⟩)
    | none => .bad
  | .box T x => .new T (ρ x).cells fun b => .pointer (some ⟨b, 0, none⟩)
  | .build T ps => clBuild L T (ps.toList.map fun p => (p.1, ρ p.2))
  | .buildSlice T n ps => clBuildSlice L T n (ps.toList.map fun p => (p.1, ρ p.2))
  | .load T a => match ρ a, L T with
    | .pointer (some ⟨b, o, none⟩), some t => .load b o t
    | _, _ => .bad
  | .store T a x => match ρ a, L T with
    | .pointer (some ⟨b, o, none⟩), some t => .store b o t (ρ x)
    | _, _ => .bad
  | .binOp op T x y _ => clBin L op T x y (ρ x) (ρ y)
  | .unOp op _ x => clUn op (ρ x)
  | .convert s d x => clConv L d s (ρ x)
  | .makeFunc fn first cap => .pure (.func fn (first.toList.map ρ).toArray (cap.toList.map ρ).toArray)
  | .makeMap T r => .sem (Instr.makeMap T (r.map ρ))
  | .makeSlice T l k => .sem (Instr.makeSlice T (ρ l) (ρ k))
  | .slice T x lo hi mx => clSlice L T (ρ x) (lo.map ρ) (hi.map ρ) (mx.map ρ)
  | .fieldAddr T x f => clFieldAddr L T (ρ x) f
  | .field T x f => clField L T (ρ x) f
  | .indexAddr T x i => clIndexAddr L T (ρ x) (ρ i)
  | .index T x i => clIndex L T (ρ x) (ρ i)
  | .lookup T x i ok => .sem (Instr.lookup T (ρ x) (ρ i) ok)
  | .mapUpdate T m k x | .insert T m k x => .semU (Instr.mapUpdate T (ρ m) (ρ k) (ρ x))
  | .range T x => .sem (Instr.range T (ρ x))
  | .next it s => .sem (Instr.next (ρ it) s o.type)
  | .entry it => .sem (Instr.entry (ρ it))
  | .extract x i => match ρ x with
    | .tuple vs => match nthV vs.toList i with
      | some v => .pure v
      | none => .bad
    | _ => .bad
  | .call k => clCall L ρ o.type k
  | _ => .bad

/-! ### the tree of a body -/
section pe
variable (L : Lay) (n : Nat)

def okDst (n : Nat) : Option Nat → Bool
  | none => true
  | some d => Nat.blt d n

/-- one operation; e: must what was there stay as it was? -/
def opX (e : Option (List Nat)) (o : Oper) (s : St) (k : St → X) : X :=
  bif okDst n o.dst then
    match cl L (ev s.ρ) o with
    | .bad => .fail
    | .pure v => k (s.put o.dst v)
    | .chk p v => .chk p (k (s.put o.dst v))
    | .br t x y => .br t (k (s.put o.dst x)) (k (s.put o.dst y))
    | .load b a i => .load b a i fun v => k (s.put o.dst v)
    | .store b a i v => match e with
      | none => .store b a i v (k (s.put o.dst undef))
      | some D => .chk (b ∈ D) (.store b a i v (k (s.put o.dst undef)))
    | .new T cs out => .new T cs fun b => k (s.put o.dst (out b))
    | .call f args => .call e f args fun v => k (s.put o.dst v)
    | .round l args => match e with
      | none => .round l args fun v => k (s.put o.dst v)
      | some _ => .fail
    | .sem x => .sem e x fun v => k (s.put o.dst v)
    | .semU x => .semU e x (k (s.put o.dst undef))
  else .fail

/-- one operation behind its guard -/
def gX (ops : Array Oper) (e : Option (List Nat)) (o : Oper) (s : St) (k : St → X) : X :=
  match o.guard with
  | none => opX L n e o s k
  | some (j, b) => match (ops[j]?).bind (·.dst) with
    | some d => bif Nat.blt d n then (match s.ρ d with
      | .bool t => .br t (bif b then opX L n e o ⟨upd s.ρ d (.bool true), s.ds⟩ k else bif okDst n o.dst then k (St.put ⟨upd s.ρ d (.bool true), s.ds⟩ o.dst undef) else .fail)
          (bif b then (bif okDst n o.dst then k (St.put ⟨upd s.ρ d (.bool false), s.ds⟩ o.dst undef) else .fail) else opX L n e o ⟨upd s.ρ d (.bool false), s.ds⟩ k)
      | .tuple _ => bif okDst n o.dst then k (s.put o.dst undef) else .fail
      | _ => .fail) else .fail
    | none => .fail

abbrev opsX (ops : Array Oper) : List Oper → St → (St → X) → X
  | [], s, k => k s
  | o :: rest, s, k => gX L n ops none o s fun s' => opsX ops rest s' k

def pe : Code → St → (Exit → St → X) → X
  | .skip, s, k => k .normal s
  | .ret, s, k => k .ret s
  | .exit id, s, k => k (.exit id) s
  | .region _ ops false, s, k => opsX L n ops ops.toList s (k .normal)
  | .region id ops true, s, k => .draw id ops s (k .normal)
  | .seq a b, s, k => pe a s fun e s' => match e with
    | .normal => pe b s' k
    | .ret => k .ret s'
    | .exit id => k (.exit id) s'
    | _ => .fail
  | .cond c x y, s, k => match ev s.ρ c with
    | .bool t => .br t (pe x s k) (pe y s k)
    | _ => .fail
  | .block id x, s, k => pe x s fun e s' => match e with
    | .normal => k .normal s'
    | .ret => k .ret s'
    | .exit j => bif Nat.beq j id then k .normal s' else k (.exit j) s'
    | _ => .fail
  | .loop x, s, k => .loop x s k
  | .rangeFunc g ps as bd, s, k => .rangeF g ps as bd s k
  | _, _, _ => .fail
end pe
end Go.Xe
