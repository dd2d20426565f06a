/- The logic of a known part of memory, 3: what each operation comes to, told as a function of its operands. It holds for every program. -/
import Derived.Test.YtlkdbmoocajjlaaAlCode
import Derived.Laws.Pointers
namespace Go.Al
open Go

section
variable {P : Program} {F : Heap}
theorem wk_pure {α : Type} (a : α) (K : α → Heap → Prop) : wk P (pure a) F K ↔ K a F := Iff.rfl
theorem wk_pure' {α : Type} (a : α) (K : α → Heap → Prop) : wk P (Sem.pure a) F K ↔ K a F := Iff.rfl
theorem wk_program (K : Program → Heap → Prop) : wk P program F K ↔ K P F := Iff.rfl
theorem wk_mark (m : Mark) (K : Unit → Heap → Prop) : wk P (mark m) F K ↔ K () F := Iff.rfl
theorem wk_map {α β : Type} (s : Sem α) (f : α → β) (K : β → Heap → Prop) : wk P (f <$> s) F K ↔ wk P s F (fun a F' => K (f a) F') := wk_bind s _ F K
theorem wk_askRoom (n : Nat) (K : Unit → Heap → Prop) : wk P (askRoom n) F K ↔ K () F := by unfold askRoom; split <;> exact Iff.rfl
theorem wk_underlying {t : TypeId} {d : TypeDesc} (h : P.underlying t = some d) (K : TypeDesc → Heap → Prop) : wk P (underlying t) F K ↔ K d F := by
  simp only [underlying, wk_bind, wk_program, h, wk_pure]
theorem wk_typeInfo {t : TypeId} {i : TypeInfo} (h : P.info? t = some i) (K : TypeInfo → Heap → Prop) : wk P (typeInfo t) F K ↔ K i F := by
  simp only [typeInfo, wk_bind, wk_program, h, wk_pure]
theorem wk_sizeOf {t : TypeId} {i : TypeInfo} (h : P.info? t = some i) (K : Nat → Heap → Prop) : wk P (sizeOf t) F K ↔ K i.size F := by
  simp only [sizeOf, wk_bind, wk_typeInfo h, wk_pure]
theorem wk_zeroValue {t : TypeId} {i : TypeInfo} {z : Value} (h : P.info? t = some i) (hz : i.zero = some z) (K : Value → Heap → Prop) : wk P (zeroValue t) F K ↔ K z F := by
  simp only [zeroValue, wk_bind, wk_typeInfo h, hz, wk_pure]
def aggD : TypeDesc → Bool
  | .struct _ | .array _ _ => true
  | _ => false
theorem wk_isAgg {t : TypeId} {d : TypeDesc} (h : P.underlying t = some d) (K : Bool → Heap → Prop) : wk P (isAgg t) F K ↔ K (aggD d) F := by
  simp only [isAgg, wk_bind, wk_underlying h]
  cases d <;> exact Iff.rfl
theorem wk_load {a : Addr} {m : Mode} {v : Value} (h : F.cell? a = some v) (K : Value → Heap → Prop) (hk : K v F) : wk P (load a m) F K := ⟨v, h, hk⟩
end

/-- What is known of a type. -/
structure TD where
  size : Nat
  bytes : Nat
  desc : TypeDesc
  zero : Option Value
abbrev Tab := TypeId → Option TD
def TabOk (P : Program) (T : Tab) : Prop := ∀ t d, T t = some d → P.underlying t = some d.desc ∧ ∃ i, P.info? t = some i ∧ i.size = d.size ∧ i.bytes = d.bytes ∧ i.zero = d.zero
/-- A test that stands still only where it isn't decided. -/
def kEq (j k : IntKind) : Bool := match j, k with
  | .i8, .i8 | .i16, .i16 | .i32, .i32 | .i64, .i64 | .u8, .u8 | .u16, .u16 | .u32, .u32 | .u64, .u64 => true
  | _, _ => false
theorem kEq_eq {j k : IntKind} (h : kEq j k = true) : j = k := by cases j <;> cases k <;> first | rfl | cases h

def intK (op : BinOp) (k k' : IntKind) (a b : Int) (K : Value → Prop) : Prop :=
  match op with
  | .shl => 0 ≤ b ∧ K (.int k (k.wrap (a * 2 ^ min b.toNat k.bits)))
  | .shr => 0 ≤ b ∧ K (.int k (a.fdiv (2 ^ min b.toNat k.bits)))
  | .add => bif kEq k k' then K (.int k (k.wrap (a + b))) else False
  | .sub => bif kEq k k' then K (.int k (k.wrap (a - b))) else False
  | .mul => bif kEq k k' then K (.int k (k.wrap (a * b))) else False
  | .quo => bif kEq k k' then b ≠ 0 ∧ K (.int k (k.wrap (a.tdiv b))) else False
  | .rem => bif kEq k k' then b ≠ 0 ∧ K (.int k (a.tmod b)) else False
  | .and => bif kEq k k' then K (.int k (k.wrap (BitVec.ofInt k.bits a &&& BitVec.ofInt k.bits b).toNat)) else False
  | .or => bif kEq k k' then K (.int k (k.wrap (BitVec.ofInt k.bits a ||| BitVec.ofInt k.bits b).toNat)) else False
  | .xor => bif kEq k k' then K (.int k (k.wrap (BitVec.ofInt k.bits a ^^^ BitVec.ofInt k.bits b).toNat)) else False
  | .andNot => bif kEq k k' then K (.int k (k.wrap (BitVec.ofInt k.bits a &&& ~~~(BitVec.ofInt k.bits b)).toNat)) else False
  | .eql => bif kEq k k' then K (.bool (a == b)) else False
  | .neq => bif kEq k k' then K (.bool (a != b)) else False
  | .lss => bif kEq k k' then K (.bool (decide (a < b))) else False
  | .leq => bif kEq k k' then K (.bool (decide (a ≤ b))) else False
  | .gtr => bif kEq k k' then K (.bool (decide (a > b))) else False
  | .geq => bif kEq k k' then K (.bool (decide (a ≥ b))) else False
def strK (op : BinOp) (a b : ByteArray) (K : Value → Prop) : Prop :=
  match op with
  | .add => ((a.size + b.size : Nat) : Int) ≤ 9223372036854775807 ∧ K (.string (a ++ b))
  | .eql => K (.bool (a.toList == b.toList))
  | .neq => K (.bool !(a.toList == b.toList))
  | .lss => K (.bool (Op.bytesLess a.toList b.toList))
  | .geq => K (.bool !(Op.bytesLess a.toList b.toList))
  | _ => False
/-- Two values that are held against each other. -/
def eqK (op : BinOp) (b : Bool) (K : Value → Prop) : Prop :=
  match op with
  | .eql => K (.bool b)
  | .neq => K (.bool !b)
  | _ => False
def isBoolT (T : Tab) (t : TypeId) : Bool := match T t with | some d => (match d.desc with | .bool => true | _ => false) | none => false
def isSliceT (T : Tab) (t : TypeId) : Bool := match T t with | some d => (match d.desc with | .slice _ => true | _ => false) | none => false
def isPtrT (T : Tab) (t : TypeId) : Bool := match T t with | some d => (match d.desc with | .pointer _ => true | _ => false) | none => false
def binK (T : Tab) (op : BinOp) (t : TypeId) (x y : Value) (K : Value → Prop) : Prop :=
  match x, y with
  | .int k a, .int k' b => intK op k k' a b K
  | .string a, .string b => strK op a b K
  | .bool a, .bool b => bif isBoolT T t then eqK op (a == b) K else False
  | .slice a _ _, .slice none _ _ => bif isSliceT T t then eqK op a.isNone K else False
  | .pointer a, .pointer none => bif isPtrT T t then eqK op a.isNone K else False
  | _, _ => False
def unK (op : UnOp) (x : Value) (K : Value → Prop) : Prop :=
  match op, x with
  | .not, .bool b => K (.bool !b)
  | .neg, .int k n => K (.int k (k.wrap (0 - n)))
  | _, _ => False
def convK (T : Tab) (src dst : TypeId) (x : Value) (K : Value → Prop) : Prop :=
  match T src, T dst with
  | some _, some d => (match d.desc, x with
    | .int k, .int _ n => K (.int k (k.wrap n))
    | .string, .string s => K (.string s)
    | _, _ => False)
  | _, _ => False
def getK (cs : Array Value) (off : Nat) (K : Value → Prop) : Prop := match cs[off]? with | some v => K v | none => False
def partK (T : Tab) (t : TypeId) (cs : Array Value) (off : Nat) (K : Value → Prop) : Prop :=
  match T t with
  | some d => bif aggD d.desc then K (.agg (cs.extract off (off + d.size))) else getK cs off K
  | none => False
def sizeK (T : Tab) (t : TypeId) : Nat := match T t with | some d => d.size | none => 0
def hasT (T : Tab) (t : TypeId) : Bool := match T t with | some _ => true | none => false
def boundK (x : Option Value) (y d : Nat) (K : Nat → Prop) : Prop :=
  match x with
  | none => K d
  | some (.int _ i) => (0 ≤ i ∧ i ≤ y) ∧ K i.toNat
  | some _ => False
def sliceK (T : Tab) (t : TypeId) (x : Value) (lo hi mx : Option Value) (K : Value → Prop) : Prop :=
  match T t, x with
  | some ⟨_, _, .string, _⟩, .string s => (match mx with
    | none => boundK hi s.size s.size fun h => boundK lo h 0 fun l => K (.string (s.extract l h))
    | some _ => False)
  | some ⟨_, _, .slice e, _⟩, .slice a len cap => bif hasT T e then (match mx, hi with
    | some _, none => False
    | _, _ => boundK mx cap cap fun m => boundK hi m len fun h => boundK lo h 0 fun l => K (.slice (if m = l then a else a.map (·.add (l * sizeK T e))) (h - l) (m - l))) else False
  | _, _ => False
/-- What an operation that looks at no memory comes to. -/
def valK (T : Tab) (op : Op) (ev : Operand → Value) (K : Value → Prop) : Prop :=
  match op with
  | .move x => K (ev x)
  | .assign x => K (ev x)
  | .pick c a b => (match ev c with | .bool t => K (if t then ev a else ev b) | _ => False)
  | .binOp op t x y _ => binK T op t (ev x) (ev y) K
  | .unOp op _ x => unK op (ev x) K
  | .convert src dst x => convK T src dst (ev x) K
  | .extract t i => (match ev t with | .tuple vs => (match vs[i]? with | some v => K v | none => False) | _ => False)
  | .indexAddr t x i => (match T t, ev x, ev i with
    | some ⟨_, _, .slice e, _⟩, .slice (some a) n _, .int _ j => bif hasT T e then (0 ≤ j ∧ j < n) ∧ K (.pointer (some (a.add (j.toNat * sizeK T e)))) else False
    | some ⟨_, _, .array n e, _⟩, .pointer (some a), .int _ j => bif hasT T e then (0 ≤ j ∧ j < n) ∧ K (.pointer (some (a.add (j.toNat * sizeK T e)))) else False
    | _, _, _ => False)
  | .index t x i => (match T t, ev x, ev i with
    | some ⟨_, _, .string, _⟩, .string s, .int _ j => (0 ≤ j ∧ j < s.size) ∧ ∀ b : UInt8, s[j.toNat]? = some b → K (.int .u8 b.toNat)
    | some ⟨_, _, .array n e, _⟩, .agg cs, .int _ j => bif hasT T e then (0 ≤ j ∧ j < n) ∧ partK T e cs (j.toNat * sizeK T e) K else False
    | _, _, _ => False)
  | .fieldAddr s x f => (match T s, ev x with
    | some ⟨_, _, .struct fs, _⟩, .pointer (some a) => (match fs[f]? with
      | some fd => bif hasT T fd.type then bif Nat.beq (sizeK T fd.type) 0 then False else K (.pointer (some (a.add fd.offset))) else False
      | none => False)
    | _, _ => False)
  | .field s x f => (match T s, ev x with
    | some ⟨_, _, .struct fs, _⟩, .agg cs => (match fs[f]? with | some fd => partK T fd.type cs fd.offset K | none => False)
    | _, _ => False)
  | .nilCheck x => (match ev x with | .pointer (some a) => K (.pointer (some a)) | _ => False)
  | .makeInterface t x => (match T t with | some ⟨_, _, .interface _, _⟩ => False | some _ => K (.iface t (ev x)) | none => False)
  | .slice t x lo hi mx => sliceK T t (ev x) (lo.map ev) (hi.map ev) (mx.map ev) K
  | .makeFunc fn first captured => K (.func fn (first.toList.map ev).toArray (captured.toList.map ev).toArray)
  | .call ⟨.builtin .len, args, ts⟩ => (match args.toList, ts.toList with
    | [x], [t] => (match T t, ev x with
      | some ⟨_, _, .string, _⟩, .string s => K (.int .i64 s.size)
      | some ⟨_, _, .slice _, _⟩, .slice _ n _ => K (.int .i64 n)
      | some ⟨_, _, .array n _, _⟩, _ => K (.int .i64 n)
      | _, _ => False)
    | _, _ => False)
  | .call ⟨.builtin .cap, args, ts⟩ => (match args.toList, ts.toList with
    | [x], [t] => (match T t, ev x with
      | some ⟨_, _, .slice _, _⟩, .slice _ _ n => K (.int .i64 n)
      | _, _ => False)
    | _, _ => False)
  | .call ⟨.builtin .min, args, _⟩ => (match args.toList with
    | [x, y] => (match ev x, ev y with | .int k a, .int _ b => K (.int k (if b < a then b else a)) | _, _ => False)
    | _ => False)
  | .call ⟨.builtin .max, args, _⟩ => (match args.toList with
    | [x, y] => (match ev x, ev y with | .int k a, .int _ b => K (.int k (if a < b then b else a)) | _, _ => False)
    | _ => False)
  | _ => False
end Go.Al
