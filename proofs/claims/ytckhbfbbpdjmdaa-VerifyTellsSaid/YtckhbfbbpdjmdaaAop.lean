/- What each operation does to abstract values and the abstract heap. -/
import Derived.Test.YtckhbfbbpdjmdaaAv
namespace Go.Proofs.Ytckhbfbbpdjmdaa
open Go Go.RowKit

inductive AK where
  | bool | int (k : IntKind) | str | ptr | slice (e : Nat) | array (n e : Nat) | struct (fs : List (Nat × Nat)) | map (k e : Nat) | func | other

/-- What is known of a type. -/
structure AT where
  kind : AK
  size : Nat
  bytes : Nat
  zero : List AV

def AK.isAgg : AK → Bool
  | .array _ _ | .struct _ => true
  | _ => false

def AV.ofScalar : Value → AV
  | .int k n => .int k n
  | .bool b => .bool b
  | .string s => .str s.data.toList
  | .pointer none => .nilp
  | .slice none 0 0 => .nils
  | .map none => .nilm
  | .nilFunc => .nilf
  | _ => .junk
def AV.ofConst : Value → AV
  | .agg cs => .agg (cs.toList.map AV.ofScalar)
  | .tuple cs => .tup (cs.toList.map AV.ofScalar)
  | v => AV.ofScalar v

abbrev Env := Nat → AV
def Env.put (e : Env) (d : Nat) (v : AV) : Env := fun x => bif Nat.beq x d then v else e x
def Env.putO (e : Env) (d : Option Nat) (v : AV) : Env := match d with | some d => e.put d v | none => e
def Env.ev (e : Env) : Operand → AV
  | .tmp t => e t
  | .const v => AV.ofConst v
  | .global _ => .junk
  | .func f => .clo f []

def AV.cells : AV → List AV
  | .agg xs => xs
  | v => [v]
/-- May it lie in one cell? -/
def AV.one : AV → Bool
  | .agg _ | .tup _ | .junk | .und => false
  | _ => true
def AV.sure : AV → Bool
  | .junk => false
  | _ => true

/-- The heap's change: objects laid, changed, or gone. -/
abbrev Delta := List (Nat × Option AObj)
def Heap.apply (H : Heap) : Delta → Heap
  | [] => H
  | (g, o) :: r => (H.put g o).apply r

/-- A continuation: the value, what was read, which numbers are new, what has changed. -/
abbrev Kt := AV → List Nat → List Nat → Delta → Prop
def PURE (v : AV) (k : Kt) : Prop := k v [] [] []
def NEW (nx : Nat) (o : AObj) (v : AV) (k : Kt) : Prop := k v [] [nx] [(nx, some o)]

def PICK (c a b : AV) (k : Kt) : Prop := match c with | .bool t => PURE (bif t then a else b) k | _ => False

/-- The cells to which a pointer leads, and where among them. -/
def rdp (H : Heap) : AV → Option (List AV × Nat × List Nat)
  | .ptr g off => match H g with | some (.row _ cells) => some (cells, off, [g]) | _ => none
  | .rop cs off => some (cs, off, [])
  | _ => none
def ldv (agg : Bool) (sz : Nat) (cells : List AV) (off : Nat) : Option AV :=
  bif agg then (if off + sz ≤ cells.length then some (.agg ((cells.drop off).take sz)) else none) else cells[off]?
def LOAD (agg : Bool) (sz : Nat) (p : AV) (H : Heap) (k : Kt) : Prop :=
  match rdp H p with
  | some (cells, off, rd) => match ldv agg sz cells off with | some v => k v rd [] [] | none => False
  | none => False
def splice (cells : List AV) (off : Nat) (vs : List AV) : List AV := cells.take off ++ vs ++ cells.drop (off + vs.length)
def STORE (sz : Nat) (p v : AV) (H : Heap) (k : Kt) : Prop :=
  match p with
  | .ptr g off => match H g with
    | some (.row es cells) => v.cells.length = sz ∧ off + sz ≤ cells.length ∧ v.cells.all AV.one = true ∧ v.sure = true ∧ k .und [g] [] [(g, some (.row es (splice cells off v.cells)))]
    | _ => False
  | _ => False
def NILC (x : AV) (k : Kt) : Prop := match x with
  | .ptr _ _ | .rop _ _ | .clo _ _ => PURE x k
  | _ => False
def FADDR (off : Nat) (p : AV) (k : Kt) : Prop := match p with
  | .ptr g o => PURE (.ptr g (o + off)) k
  | .rop cs o => PURE (.rop cs (o + off)) k
  | _ => False
def partOf (agg : Bool) (sz off : Nat) (cs : List AV) : Option AV := ldv agg sz cs off
def FIELD (agg : Bool) (sz off : Nat) (x : AV) (k : Kt) : Prop := match x with
  | .agg cs => match partOf agg sz off cs with | some v => PURE v k | none => False
  | _ => False
/-- An element's address in a slice. -/
def IADDR (esz : Nat) (x i : AV) (k : Kt) : Prop := match i with
  | .int _ n => match x with
    | .slc g off len => 0 ≤ n ∧ n < len ∧ PURE (.ptr g (off + n.toNat * esz)) k
    | .ro xs => 0 ≤ n ∧ n < xs.length ∧ (xs.getD n.toNat []).length = esz ∧ PURE (.rop (xs.getD n.toNat []) 0) k
    | _ => False
  | _ => False
/-- An element's address in an array. -/
def AADDR (esz len : Nat) (p i : AV) (k : Kt) : Prop := match i with
  | .int _ n => 0 ≤ n ∧ n < len ∧ match p with
    | .ptr g o => PURE (.ptr g (o + n.toNat * esz)) k
    | .rop cs o => PURE (.rop cs (o + n.toNat * esz)) k
    | _ => False
  | _ => False
def INDEX (x i : AV) (k : Kt) : Prop := match i with
  | .int _ n => match x with
    | .str s => 0 ≤ n ∧ n < s.length ∧ PURE (.int .u8 ((s.getD n.toNat 0).toNat : Int)) k
    | _ => False
  | _ => False
/-- An array's element, by value. -/
def AINDEX (agg : Bool) (esz len : Nat) (x i : AV) (k : Kt) : Prop := match i with
  | .int _ n => 0 ≤ n ∧ n < len ∧ FIELD agg esz (n.toNat * esz) x k
  | _ => False
def LENS (x : AV) (k : Kt) : Prop := match x with
  | .str s => PURE (.int .i64 (s.length : Int)) k
  | _ => False
def LENL (x : AV) (k : Kt) : Prop := match x with
  | .nils | .zs => PURE (.int .i64 0) k
  | .slc _ _ n => PURE (.int .i64 (n : Int)) k
  | .ro xs => PURE (.int .i64 (xs.length : Int)) k
  | _ => False
def LENM (x : AV) (H : Heap) (k : Kt) : Prop := match x with
  | .nilm => PURE (.int .i64 0) k
  | .amap g => match H g with | some (.mp es) => k (.int .i64 (es.length : Int)) [g] [] [] | _ => False
  | _ => False
def EXTR (x : AV) (i : Nat) (k : Kt) : Prop := match x with
  | .tup vs => match vs[i]? with | some v => PURE v k | none => False
  | _ => False

/-- Parts laid into cells. -/
def fillA (place : Nat → Option (Nat × Nat)) (cells : List AV) : List (Nat × AV) → Option (List AV)
  | [] => some cells
  | (i, v) :: rest => match place i with
    | none => none
    | some (off, size) => if v.cells.length = size ∧ off + size ≤ cells.length ∧ v.sure = true then fillA place (splice cells off v.cells) rest else none
def BUILD (place : Nat → Option (Nat × Nat)) (zero : List AV) (parts : List (Nat × AV)) (k : Kt) : Prop :=
  match fillA place zero parts with | some cells => PURE (.agg cells) k | none => False
def BSLICE (len esz : Nat) (zero : List AV) (parts : List (Nat × AV)) (nx : Nat) (k : Kt) : Prop :=
  match fillA (fun i => some (i * esz, esz)) ((List.replicate len zero).flatten) parts with
  | some cells => NEW nx (.row esz cells) (.slc nx 0 len) k
  | none => False

def icmp (op : BinOp) (a b : Int) : Option Bool := match op with
  | .eql => some (a == b) | .neq => some (a != b) | .lss => some (decide (a < b)) | .leq => some (decide (a ≤ b)) | .gtr => some (decide (a > b)) | .geq => some (decide (a ≥ b))
  | _ => none
def ibits (op : BinOp) (k : IntKind) (x y : Int) : Option Int :=
  let a := BitVec.ofInt k.bits x
  let b := BitVec.ofInt k.bits y
  match op with
  | .and => some (k.wrap (a &&& b).toNat) | .or => some (k.wrap (a ||| b).toNat) | .xor => some (k.wrap (a ^^^ b).toNat) | .andNot => some (k.wrap (a &&& ~~~b).toNat)
  | _ => none
/-- An operation of two integers of one kind. -/
def IBIN (op : BinOp) (k : IntKind) (a b : Int) (K : Kt) : Prop := match op with
  | .add => PURE (.int k (k.wrap (a + b))) K
  | .sub => PURE (.int k (k.wrap (a - b))) K
  | .mul => PURE (.int k (k.wrap (a * b))) K
  | .quo => b ≠ 0 ∧ PURE (.int k (k.wrap (a.tdiv b))) K
  | .rem => b ≠ 0 ∧ PURE (.int k (a.tmod b)) K
  | .shl => 0 ≤ b ∧ PURE (.int k (k.wrap (a * 2 ^ (min b.toNat k.bits)))) K
  | .shr => 0 ≤ b ∧ PURE (.int k (a.fdiv (2 ^ (min b.toNat k.bits)))) K
  | .and | .or | .xor | .andNot => match ibits op k a b with | some r => PURE (.int k r) K | none => False
  | .eql | .neq | .lss | .leq | .gtr | .geq => match icmp op a b with | some r => PURE (.bool r) K | none => False
def SBIN (op : BinOp) (a b : List UInt8) (K : Kt) : Prop := match op with
  | .add => a.length + b.length ≤ 9223372036854775807 ∧ PURE (.str (a ++ b)) K
  | .eql => PURE (.bool (a == b)) K
  | .neq => PURE (.bool (!(a == b))) K
  | .lss => PURE (.bool (Op.bytesLess a b)) K
  | .leq => PURE (.bool (Op.bytesLess a b || a == b)) K
  | .gtr => PURE (.bool (!(Op.bytesLess a b || a == b))) K
  | .geq => PURE (.bool (!Op.bytesLess a b)) K
  | _ => False
/-- Are cells of such kinds the same? -/
def eqCells : List AV → List AV → Option Bool
  | [], [] => some true
  | .int k a :: r, .int k' b :: s => if k = k' then (eqCells r s).map (fun t => a == b && t) else none
  | .str a :: r, .str b :: s => (eqCells r s).map (fun t => a == b && t)
  | .bool a :: r, .bool b :: s => (eqCells r s).map (fun t => a == b && t)
  | _, _ => none
def shiftOp : BinOp → Bool
  | .shl | .shr => true
  | _ => false
def BINI (op : BinOp) (x y : AV) (K : Kt) : Prop := match x, y with
  | .int k a, .int k' b => (shiftOp op = false → k' = k) ∧ IBIN op k a b K
  | _, _ => False
def BINS (op : BinOp) (x y : AV) (K : Kt) : Prop := match x, y with
  | .str a, .str b => SBIN op a b K
  | _, _ => False
def eqlOp : BinOp → Option Bool
  | .eql => some false
  | .neq => some true
  | _ => none
def BINB (op : BinOp) (x y : AV) (K : Kt) : Prop := match eqlOp op with
  | some neg => match x, y with
    | .bool a, .bool b => PURE (.bool (neg ^^ (a == b))) K
    | _, _ => False
  | none => False
def BINA (sz : Nat) (op : BinOp) (x y : AV) (K : Kt) : Prop := match eqlOp op with
  | some neg => match x, y with
    | .agg a, .agg b => a.length = sz ∧ match eqCells a b with | some t => PURE (.bool (neg ^^ t)) K | none => False
    | _, _ => False
  | none => False
def nilP : AV → Option Bool
  | .nilp => some true
  | .ptr _ _ | .rop _ _ => some false
  | _ => none
/-- A pointer against nil. -/
def BINP (op : BinOp) (x y : AV) (K : Kt) : Prop := match eqlOp op with
  | some neg => match x, y with
    | .nilp, v => match nilP v with | some t => PURE (.bool (neg ^^ t)) K | none => False
    | v, .nilp => match nilP v with | some t => PURE (.bool (neg ^^ t)) K | none => False
    | _, _ => False
  | none => False
def UN (op : UnOp) (x : AV) (K : Kt) : Prop := match op, x with
  | .not, .bool b => PURE (.bool (!b)) K
  | .neg, .int k n => IBIN .sub k 0 n K
  | .xor, .int k n => IBIN .xor k (if k.signed then -1 else k.max) n K
  | _, _ => False
/-- A part of a slice, or a text. -/
def lohi (lo hi : Option AV) (n : Nat) : Option (Int × Int) :=
  match lo, hi with
  | none, none => some (0, n)
  | some (.int _ a), none => some (a, n)
  | none, some (.int _ b) => some (0, b)
  | some (.int _ a), some (.int _ b) => some (a, b)
  | _, _ => none
def SLICES (x : AV) (lo hi : Option AV) (k : Kt) : Prop := match x with
  | .str s => match lohi lo hi s.length with
    | some (a, b) => 0 ≤ a ∧ a ≤ b ∧ b ≤ s.length ∧ PURE (.str ((s.take b.toNat).drop a.toNat)) k
    | none => False
  | _ => False
def SLICE (esz : Nat) (x : AV) (lo hi : Option AV) (H : Heap) (k : Kt) : Prop := match x with
  | .ro xs => match lohi lo hi xs.length with
    | some (a, b) => 0 ≤ a ∧ a ≤ b ∧ b ≤ xs.length ∧ (∀ x ∈ xs, x.length = esz) ∧ PURE (.ro ((xs.take b.toNat).drop a.toNat)) k
    | none => False
  | .slc g off len => match lohi lo hi len with
    | some (a, b) => match H g with
      | some (.row sz _) => sz = esz ∧ 0 ≤ a ∧ a ≤ b ∧ b ≤ len ∧ k (.slc g (off + a.toNat * esz) (b - a).toNat) [g] [] []
      | _ => False
    | none => False
  | .nils => match lohi lo hi 0 with
    | some (a, b) => a = 0 ∧ b = 0 ∧ PURE .nils k
    | none => False
  | .zs => match lohi lo hi 0 with
    | some (a, b) => a = 0 ∧ b = 0 ∧ PURE .zs k
    | none => False
  | _ => False
/-- A part of no elements, and no room. -/
def SLICE0 (x : AV) (lo hi mx : AV) (k : Kt) : Prop := match lo, hi, mx with
  | .int _ a, .int _ b, .int _ c => a = 0 ∧ b = 0 ∧ c = 0 ∧ (match x with
    | .nils => PURE .nils k
    | .zs | .ro _ | .slc _ _ _ => PURE .zs k
    | _ => False)
  | _, _, _ => False
def CONVI (k : IntKind) (x : AV) (K : Kt) : Prop := match x with | .int _ n => PURE (.int k (k.wrap n)) K | _ => False
/-- What an append, or a copy, takes: its cells, and what was read. -/
def srcCells (esz : Nat) (H : Heap) (x : AV) : Option (Nat × List AV × List Nat) := match x with
  | .nils | .zs => some (0, [], [])
  | .str s => if esz = 1 then some (s.length, s.map (fun b => .int .u8 (b.toNat : Int)), []) else none
  | .ro xs => if xs.all (fun x => x.length == esz) = true then some (xs.length, xs.flatten, []) else none
  | .slc g off len => match H g with
    | some (.row _ cells) => if off + len * esz ≤ cells.length then some (len, (cells.drop off).take (len * esz), [g]) else none
    | _ => none
  | _ => none
def APPEND (esz bytes : Nat) (s x : AV) (H : Heap) (nx : Nat) (k : Kt) : Prop :=
  match srcCells esz H x with
  | some (m, news, rd) => news.all AV.one = true ∧ match s with
    | .nils => (m = 0 → k .nils rd [] []) ∧ (m ≠ 0 → m * bytes ≤ 140737488355328 ∧ k (.slc nx 0 m) rd [nx] [(nx, some (.row esz news))])
    | .zs => (m = 0 → k .zs rd [] []) ∧ (m ≠ 0 → m * bytes ≤ 140737488355328 ∧ k (.slc nx 0 m) rd [nx] [(nx, some (.row esz news))])
    | .slc g off len => match H g with
      | some (.row sz cells) => sz = esz ∧ off + len * esz ≤ cells.length ∧ (len + m) * bytes ≤ 140737488355328 ∧
          k (.slc nx 0 (len + m)) (g :: rd) [nx] [(g, none), (nx, some (.row esz ((cells.drop off).take (len * esz) ++ news)))]
      | _ => False
    | _ => False
  | none => False
def MAKE (esz bytes : Nat) (zero : List AV) (l c : AV) (nx : Nat) (k : Kt) : Prop := match l, c with
  | .int _ n, .int _ m => m = n ∧ 0 ≤ n ∧ n ≤ 140737488355328 ∧ n.toNat * bytes ≤ 140737488355328 ∧ NEW nx (.row esz ((List.replicate n.toNat zero).flatten)) (.slc nx 0 n.toNat) k
  | _, _ => False
def COPY (esz : Nat) (d x : AV) (H : Heap) (k : Kt) : Prop :=
  match srcCells esz H x with
  | some (m, news, rd) => match d with
    | .nils | .zs => k (.int .i64 0) rd [] []
    | .slc g off len => match H g with
      | some (.row sz cells) => sz = esz ∧ off + len * esz ≤ cells.length ∧ news.all AV.one = true ∧
          k (.int .i64 (min m len : Nat)) (g :: rd) [] [(g, some (.row sz (splice cells off (news.take (min m len * esz)))))]
      | _ => False
    | _ => False
  | none => False
/-- The place of a key in a map. -/
def keyEq : AV → AV → Option Bool
  | .int k a, .int k' b => if k = k' then some (a == b) else none
  | .str a, .str b => some (a == b)
  | .bool a, .bool b => some (a == b)
  | _, _ => none
def findK (key : AV) : List (AV × AV) → Option (Option (Nat × AV))
  | [] => some none
  | e :: r => match keyEq key e.1 with
    | some true => some (some (0, e.2))
    | some false => (findK key r).map (fun o => o.map fun p => (p.1 + 1, p.2))
    | none => none
def LOOK (zero : List AV) (agg : Bool) (m key : AV) (ok : Bool) (H : Heap) (k : Kt) : Prop :=
  let z : AV := bif agg then .agg zero else zero.getD 0 .junk
  match m with
  | .nilm => PURE (bif ok then .tup [z, .bool false] else z) k
  | .amap g => match H g with
    | some (.mp es) => match findK key es with
      | some (some (_, v)) => k (bif ok then .tup [v, .bool true] else v) [g] [] []
      | some none => k (bif ok then .tup [z, .bool false] else z) [g] [] []
      | none => False
    | _ => False
  | _ => False
def MUPD (m key v : AV) (H : Heap) (k : Kt) : Prop := match m with
  | .amap g => match H g with
    | some (.mp es) => match findK key es with
      | some (some (i, _)) => k .und [g] [] [(g, some (.mp (es.set i (key, v))))]
      | some none => k .und [g] [] [(g, some (.mp (es ++ [(key, v)])))]
      | none => False
    | _ => False
  | _ => False

/-- Is a key of such a kind? -/
def keyFit : AK → AV → Bool
  | .int _, .int _ _ | .str, .str _ | .bool, .bool _ => true
  | _, _ => false

section
variable (T : Nat → Option AT)
def sizeT (t : Nat) : Nat := match T t with | some a => a.size | none => 0
def placeOf (fs : List (Nat × Nat)) : Nat → Option (Nat × Nat) := fun i => match fs[i]? with | some (t, off) => some (off, sizeT T t) | none => none
def listOk (t : Nat) : Bool := match T t with
  | some ⟨.slice _, _, _, _⟩ | some ⟨.str, _, _, _⟩ => true
  | _ => false
def aop (eqs : Nat → Bool) (e : Operand → AV) (H : Heap) (nx : Nat) (o : Oper) (k : Kt) : Prop :=
  match o.op with
  | .move x | .assign x => PURE (e x) k
  | .pick c a b => PICK (e c) (e a) (e b) k
  | .alloc t => match T t with | some a => NEW nx (.row a.size a.zero) (.ptr nx 0) k | none => False
  | .box _ v => (e v).sure = true ∧ NEW nx (.row (e v).cells.length (e v).cells) (.ptr nx 0) k
  | .build t ps => match T t with
    | some ⟨.struct fs, _, _, zero⟩ => (fs.all fun p => sizeT T p.1 != 0) = true ∧ BUILD (placeOf T fs) zero (ps.toList.map fun p => (p.1, e p.2)) k
    | some ⟨.array _ el, _, _, zero⟩ => sizeT T el ≠ 0 ∧ BUILD (fun i => some (i * sizeT T el, sizeT T el)) zero (ps.toList.map fun p => (p.1, e p.2)) k
    | _ => False
  | .buildSlice t len ps => match T t with
    | some ⟨.slice el, _, _, _⟩ => match T el with
      | some a => len * a.size ≤ 16777216 ∧ 0 < a.size ∧ BSLICE len a.size a.zero (ps.toList.map fun p => (p.1, e p.2)) nx k
      | none => False
    | _ => False
  | .load t p => match T t with | some a => LOAD a.kind.isAgg a.size (e p) H k | none => False
  | .store t p v => match T t with | some a => STORE a.size (e p) (e v) H k | none => False
  | .nilCheck x => NILC (e x) k
  | .binOp op t x y _ => match T t with
    | some ⟨.int _, _, _, _⟩ => BINI op (e x) (e y) k
    | some ⟨.str, _, _, _⟩ => BINS op (e x) (e y) k
    | some ⟨.bool, _, _, _⟩ => BINB op (e x) (e y) k
    | some ⟨.struct _, sz, _, _⟩ => eqs t = true ∧ BINA sz op (e x) (e y) k
    | some ⟨.array _ _, sz, _, _⟩ => eqs t = true ∧ BINA sz op (e x) (e y) k
    | some ⟨.ptr, _, _, _⟩ => BINP op (e x) (e y) k
    | _ => False
  | .unOp op _ x => UN op (e x) k
  | .convert s d x => match T s, T d with
    | some ⟨.int _, _, _, _⟩, some ⟨.int kd, _, _, _⟩ => CONVI kd (e x) k
    | _, _ => False
  | .makeFunc fn first cap => match fn, first.toList with
    | .func f, [] => PURE (.clo f (cap.toList.map e)) k
    | _, _ => False
  | .makeMap _ r => match r with
    | none => NEW nx (.mp []) (.amap nx) k
    | some _ => False
  | .makeSlice t l c => match T t with
    | some ⟨.slice el, _, _, _⟩ => match T el with | some a => 0 < a.size ∧ MAKE a.size a.bytes a.zero (e l) (e c) nx k | none => False
    | _ => False
  | .slice t x lo hi mx => match mx with
    | none => match T t with
      | some ⟨.slice el, _, _, _⟩ => sizeT T el ≠ 0 ∧ SLICE (sizeT T el) (e x) (lo.map e) (hi.map e) H k
      | some ⟨.str, _, _, _⟩ => SLICES (e x) (lo.map e) (hi.map e) k
      | _ => False
    | some mx => match lo, hi with
      | some lo, some hi => match T t with
        | some ⟨.slice el, _, _, _⟩ => sizeT T el ≠ 0 ∧ SLICE0 (e x) (e lo) (e hi) (e mx) k
        | _ => False
      | _, _ => False
  | .fieldAddr t x f => match T t with
    | some ⟨.struct fs, _, _, _⟩ => match placeOf T fs f with | some (off, sz) => sz ≠ 0 ∧ FADDR off (e x) k | none => False
    | _ => False
  | .field t x f => match T t with
    | some ⟨.struct fs, _, _, _⟩ => match fs[f]? with
      | some (ft, off) => match T ft with | some a => FIELD a.kind.isAgg a.size off (e x) k | none => False
      | none => False
    | _ => False
  | .indexAddr t x i => match T t with
    | some ⟨.slice el, _, _, _⟩ => sizeT T el ≠ 0 ∧ IADDR (sizeT T el) (e x) (e i) k
    | some ⟨.array n el, _, _, _⟩ => sizeT T el ≠ 0 ∧ AADDR (sizeT T el) n (e x) (e i) k
    | _ => False
  | .index t x i => match T t with
    | some ⟨.str, _, _, _⟩ => INDEX (e x) (e i) k
    | some ⟨.array n el, _, _, _⟩ => match T el with | some a => AINDEX a.kind.isAgg a.size n (e x) (e i) k | none => False
    | _ => False
  | .lookup t m key ok => match T t with
    | some ⟨.map kt el, _, _, _⟩ => match T el, T kt with | some a, some ka => keyFit ka.kind (e key) = true ∧ LOOK a.zero a.kind.isAgg (e m) (e key) ok H k | _, _ => False
    | _ => False
  | .mapUpdate t m key v | .insert t m key v => match T t with
    | some ⟨.map kt _, _, _, _⟩ => match T kt with | some ka => keyFit ka.kind (e key) = true ∧ MUPD (e m) (e key) (e v) H k | none => False
    | _ => False
  | .extract x i => EXTR (e x) i k
  | .call c => match c.callee, c.args.toList, c.argTypes.toList with
    | .builtin .len, [x], [t] => match T t with
      | some ⟨.str, _, _, _⟩ => LENS (e x) k
      | some ⟨.slice _, _, _, _⟩ => LENL (e x) k
      | some ⟨.map _ _, _, _, _⟩ => LENM (e x) H k
      | _ => False
    | .builtin .append, [s, x], [t, t2] => match T t with
      | some ⟨.slice el, _, _, _⟩ => match T el with | some a => 0 < a.size ∧ 0 < a.bytes ∧ listOk T t2 = true ∧ APPEND a.size a.bytes (e s) (e x) H nx k | none => False
      | _ => False
    | .builtin .copy, [d, x], [t, _] => match T t with
      | some ⟨.slice el, _, _, _⟩ => match T el with | some a => 0 < a.size ∧ COPY a.size (e d) (e x) H k | none => False
      | _ => False
    | _, _, _ => False
  | _ => False
end
end Go.Proofs.Ytckhbfbbpdjmdaa
