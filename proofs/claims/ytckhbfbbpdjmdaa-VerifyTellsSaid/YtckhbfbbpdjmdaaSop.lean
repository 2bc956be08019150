/- The operations again, one behind the other: continuations told what they want alone. -/
import Derived.Test.YtckhbfbbpdjmdaaAopS
namespace Go.Proofs.Ytckhbfbbpdjmdaa
open Go Go.RowKit

def gd (b : Bool) (A : Prop) : Prop := match b with | true => A | false => False
theorem gd_iff {b : Bool} {A : Prop} : gd b A ↔ b = true ∧ A := by cases b <;> simp [gd]

def qk (k : AV → Prop) : Kt := fun v _ _ _ => k v
def PK (c a b : AV) (k : AV → Prop) : Prop := match c with | .bool t => k (bif t then a else b) | _ => False
def LD (agg : Bool) (sz : Nat) (p : AV) (H : Heap) (k : AV → Prop) : Prop := LOAD agg sz p H (qk k)
def ST (sz : Nat) (p v : AV) (H : Heap) (k : Heap → Prop) : Prop := STORE sz p v H fun _ _ _ D => k (H.apply D)
def NC (x : AV) (k : AV → Prop) : Prop := NILC x (qk k)
def FA (off : Nat) (p : AV) (k : AV → Prop) : Prop := FADDR off p (qk k)
def FI (agg : Bool) (sz off : Nat) (x : AV) (k : AV → Prop) : Prop := FIELD agg sz off x (qk k)
def IA (esz : Nat) (x i : AV) (k : AV → Prop) : Prop := IADDR esz x i (qk k)
def AA (esz len : Nat) (p i : AV) (k : AV → Prop) : Prop := AADDR esz len p i (qk k)
def IX (x i : AV) (k : AV → Prop) : Prop := INDEX x i (qk k)
def AI (agg : Bool) (esz len : Nat) (x i : AV) (k : AV → Prop) : Prop := AINDEX agg esz len x i (qk k)
def LNS (x : AV) (k : AV → Prop) : Prop := LENS x (qk k)
def LNL (x : AV) (k : AV → Prop) : Prop := LENL x (qk k)
def LNM (x : AV) (H : Heap) (k : AV → Prop) : Prop := LENM x H (qk k)
def EX (x : AV) (i : Nat) (k : AV → Prop) : Prop := EXTR x i (qk k)
def BD (place : Nat → Option (Nat × Nat)) (zero : List AV) (parts : List (Nat × AV)) (k : AV → Prop) : Prop := BUILD place zero parts (qk k)
def BSL (len esz : Nat) (zero : List AV) (parts : List (Nat × AV)) (k : List AV → Prop) : Prop :=
  match fillA (fun i => some (i * esz, esz)) ((List.replicate len zero).flatten) parts with
  | some cells => k cells
  | none => False
def BI (op : BinOp) (x y : AV) (k : AV → Prop) : Prop := BINI op x y (qk k)
def BS (op : BinOp) (x y : AV) (k : AV → Prop) : Prop := BINS op x y (qk k)
def BB (op : BinOp) (x y : AV) (k : AV → Prop) : Prop := BINB op x y (qk k)
def BA (sz : Nat) (op : BinOp) (x y : AV) (k : AV → Prop) : Prop := BINA sz op x y (qk k)
def BP (op : BinOp) (x y : AV) (k : AV → Prop) : Prop := BINP op x y (qk k)
def UO (op : UnOp) (x : AV) (k : AV → Prop) : Prop := UN op x (qk k)
def CV (ki : IntKind) (x : AV) (k : AV → Prop) : Prop := CONVI ki x (qk k)
def SL (esz : Nat) (x : AV) (lo hi : Option AV) (H : Heap) (k : AV → Prop) : Prop := SLICE esz x lo hi H (qk k)
def SLS (x : AV) (lo hi : Option AV) (k : AV → Prop) : Prop := SLICES x lo hi (qk k)
def SL0 (x lo hi mx : AV) (k : AV → Prop) : Prop := SLICE0 x lo hi mx (qk k)
def MK (bytes : Nat) (l c : AV) (k : Nat → Prop) : Prop := match l, c with
  | .int _ n, .int _ m => m = n ∧ 0 ≤ n ∧ n ≤ 140737488355328 ∧ n.toNat * bytes ≤ 140737488355328 ∧ k n.toNat
  | _, _ => False
def LK (zero : List AV) (agg : Bool) (m key : AV) (ok : Bool) (H : Heap) (k : AV → Prop) : Prop := LOOK zero agg m key ok H (qk k)
def MU (m key v : AV) (H : Heap) (k : Heap → Prop) : Prop := MUPD m key v H fun _ _ _ D => k (H.apply D)
def APP (esz bytes : Nat) (s x : AV) (H : Heap) (nx : Nat) (k : AV → Heap → Nat → Prop) : Prop := APPEND esz bytes s x H nx fun v _ fr D => k v (H.apply D) (nx + fr.length)
def CP (esz : Nat) (d x : AV) (H : Heap) (k : AV → Heap → Prop) : Prop := COPY esz d x H fun v _ _ D => k v (H.apply D)

section
variable (T : Nat → Option AT) (eqs : Nat → Bool)
def sop (e : Operand → AV) (H : Heap) (nx : Nat) (o : Oper) (k : AV → Heap → Nat → Prop) : Prop :=
  match o.op with
  | .move x | .assign x => k (e x) H nx
  | .pick c a b => PK (e c) (e a) (e b) fun v => k v H nx
  | .alloc t => match T t with | some a => k (.ptr nx 0) (H.put nx (some (.row a.size a.zero))) (nx + 1) | none => False
  | .box _ v => (e v).sure = true ∧ k (.ptr nx 0) (H.put nx (some (.row (e v).cells.length (e v).cells))) (nx + 1)
  | .build t ps => match T t with
    | some ⟨.struct fs, _, _, zero⟩ => gd (fs.all fun p => sizeT T p.1 != 0) <| BD (placeOf T fs) zero (ps.toList.map fun p => (p.1, e p.2)) fun v => k v H nx
    | some ⟨.array _ el, _, _, zero⟩ => gd (sizeT T el != 0) <| BD (fun i => some (i * sizeT T el, sizeT T el)) zero (ps.toList.map fun p => (p.1, e p.2)) fun v => k v H nx
    | _ => False
  | .buildSlice t len ps => match T t with
    | some ⟨.slice el, _, _, _⟩ => match T el with
      | some a => gd (Nat.ble (len * a.size) 16777216 && Nat.blt 0 a.size) <| BSL len a.size a.zero (ps.toList.map fun p => (p.1, e p.2)) fun cells => k (.slc nx 0 len) (H.put nx (some (.row a.size cells))) (nx + 1)
      | none => False
    | _ => False
  | .load t p => match T t with | some a => LD a.kind.isAgg a.size (e p) H fun v => k v H nx | none => False
  | .store t p v => match T t with | some a => ST a.size (e p) (e v) H fun H => k .und H nx | none => False
  | .nilCheck x => NC (e x) fun v => k v H nx
  | .binOp op t x y _ => match T t with
    | some ⟨.int _, _, _, _⟩ => BI op (e x) (e y) fun v => k v H nx
    | some ⟨.str, _, _, _⟩ => BS op (e x) (e y) fun v => k v H nx
    | some ⟨.bool, _, _, _⟩ => BB op (e x) (e y) fun v => k v H nx
    | some ⟨.struct _, sz, _, _⟩ => gd (eqs t) <| BA sz op (e x) (e y) fun v => k v H nx
    | some ⟨.array _ _, sz, _, _⟩ => gd (eqs t) <| BA sz op (e x) (e y) fun v => k v H nx
    | some ⟨.ptr, _, _, _⟩ => BP op (e x) (e y) fun v => k v H nx
    | _ => False
  | .unOp op _ x => UO op (e x) fun v => k v H nx
  | .convert s d x => match T s, T d with
    | some ⟨.int _, _, _, _⟩, some ⟨.int kd, _, _, _⟩ => CV kd (e x) fun v => k v H nx
    | _, _ => False
  | .makeFunc fn first cap => match fn, first.toList with
    | .func f, [] => k (.clo f (cap.toList.map e)) H nx
    | _, _ => False
  | .makeMap _ r => match r with
    | none => k (.amap nx) (H.put nx (some (.mp []))) (nx + 1)
    | some _ => False
  | .makeSlice t l c => match T t with
    | some ⟨.slice el, _, _, _⟩ => match T el with
      | some a => gd (Nat.blt 0 a.size) <| MK a.bytes (e l) (e c) fun n => k (.slc nx 0 n) (H.put nx (some (.row a.size ((List.replicate n a.zero).flatten)))) (nx + 1)
      | none => False
    | _ => False
  | .slice t x lo hi mx => match mx with
    | none => match T t with
      | some ⟨.slice el, _, _, _⟩ => gd (sizeT T el != 0) <| SL (sizeT T el) (e x) (lo.map e) (hi.map e) H fun v => k v H nx
      | some ⟨.str, _, _, _⟩ => SLS (e x) (lo.map e) (hi.map e) fun v => k v H nx
      | _ => False
    | some mx => match lo, hi with
      | some lo, some hi => match T t with
        | some ⟨.slice el, _, _, _⟩ => gd (sizeT T el != 0) <| SL0 (e x) (e lo) (e hi) (e mx) fun v => k v H nx
        | _ => False
      | _, _ => False
  | .fieldAddr t x f => match T t with
    | some ⟨.struct fs, _, _, _⟩ => match placeOf T fs f with | some (off, sz) => gd (sz != 0) <| FA off (e x) fun v => k v H nx | none => False
    | _ => False
  | .field t x f => match T t with
    | some ⟨.struct fs, _, _, _⟩ => match fs[f]? with
      | some (ft, off) => match T ft with | some a => FI a.kind.isAgg a.size off (e x) fun v => k v H nx | none => False
      | none => False
    | _ => False
  | .indexAddr t x i => match T t with
    | some ⟨.slice el, _, _, _⟩ => gd (sizeT T el != 0) <| IA (sizeT T el) (e x) (e i) fun v => k v H nx
    | some ⟨.array n el, _, _, _⟩ => gd (sizeT T el != 0) <| AA (sizeT T el) n (e x) (e i) fun v => k v H nx
    | _ => False
  | .index t x i => match T t with
    | some ⟨.str, _, _, _⟩ => IX (e x) (e i) fun v => k v H nx
    | some ⟨.array n el, _, _, _⟩ => match T el with | some a => AI a.kind.isAgg a.size n (e x) (e i) fun v => k v H nx | none => False
    | _ => False
  | .lookup t m key ok => match T t with
    | some ⟨.map kt el, _, _, _⟩ => match T el, T kt with | some a, some ka => keyFit ka.kind (e key) = true ∧ LK a.zero a.kind.isAgg (e m) (e key) ok H fun v => k v H nx | _, _ => False
    | _ => False
  | .mapUpdate t m key v | .insert t m key v => match T t with
    | some ⟨.map kt _, _, _, _⟩ => match T kt with | some ka => keyFit ka.kind (e key) = true ∧ MU (e m) (e key) (e v) H fun H => k .und H nx | none => False
    | _ => False
  | .extract x i => EX (e x) i fun v => k v H nx
  | .call c => match c.callee, c.args.toList, c.argTypes.toList with
    | .builtin .len, [x], [t] => match T t with
      | some ⟨.str, _, _, _⟩ => LNS (e x) fun v => k v H nx
      | some ⟨.slice _, _, _, _⟩ => LNL (e x) fun v => k v H nx
      | some ⟨.map _ _, _, _, _⟩ => LNM (e x) H fun v => k v H nx
      | _ => False
    | .builtin .append, [s, x], [t, t2] => match T t with
      | some ⟨.slice el, _, _, _⟩ => match T el with | some a => gd (Nat.blt 0 a.size && Nat.blt 0 a.bytes && listOk T t2) <| APP a.size a.bytes (e s) (e x) H nx k | none => False
      | _ => False
    | .builtin .copy, [d, x], [t, _] => match T t with
      | some ⟨.slice el, _, _, _⟩ => match T el with | some a => gd (Nat.blt 0 a.size) <| CP a.size (e d) (e x) H fun v H => k v H nx | none => False
      | _ => False
    | _, _, _ => False
  | _ => False

theorem sop_aop {e : Operand → AV} {H : Heap} {nx : Nat} {o : Oper} {k : AV → Heap → Nat → Prop} (h : sop T eqs e H nx o k) : aop T eqs e H nx o fun v _ fr D => k v (H.apply D) (nx + fr.length) := by
  cases hop : o.op <;> simp only [sop, hop] at h <;> simp only [aop, hop]
  all_goals first | exact h | exact h.elim | skip
  all_goals
    repeat' split at h
    all_goals try simp only [gd_iff, bne_iff_ne, Bool.and_eq_true, Nat.blt_eq, Nat.ble_eq] at h
    all_goals try simp only [and_assoc] at h
  all_goals first | exact h.elim | (revert h; simp only [*]; intro h; exact h) | (revert h; simp only [*]; exact id) | skip
end
end Go.Proofs.Ytckhbfbbpdjmdaa
