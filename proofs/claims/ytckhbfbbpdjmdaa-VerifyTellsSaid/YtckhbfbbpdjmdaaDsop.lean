/- The operations in a region whose order is drawn: what each came to, what it read, what it changed. -/
import Derived.Test.YtckhbfbbpdjmdaaAw1
namespace Go.Proofs.Ytckhbfbbpdjmdaa
open Go Go.RowKit

def LDR (agg : Bool) (sz : Nat) (p : AV) (H : Heap) (k : AV → List Nat → Prop) : Prop := LOAD agg sz p H fun v rd _ _ => k v rd

section
variable {k : Kt}
theorem pk_k {c a b : AV} : PK c a b (fun v => k v [] [] []) = PICK c a b k := by unfold PK PICK PURE; rfl
theorem nc_k {x : AV} : NC x (fun v => k v [] [] []) = NILC x k := by unfold NC NILC PURE qk; rfl
theorem fa_k {o : Nat} {x : AV} : FA o x (fun v => k v [] [] []) = FADDR o x k := by unfold FA FADDR PURE qk; rfl
theorem fi_k {g : Bool} {s o : Nat} {x : AV} : FI g s o x (fun v => k v [] [] []) = FIELD g s o x k := by unfold FI FIELD PURE qk; rfl
theorem ia_k {s : Nat} {x i : AV} : IA s x i (fun v => k v [] [] []) = IADDR s x i k := by unfold IA IADDR PURE qk; rfl
theorem aa_k {s l : Nat} {x i : AV} : AA s l x i (fun v => k v [] [] []) = AADDR s l x i k := by unfold AA AADDR PURE qk; rfl
theorem ix_k {x i : AV} : IX x i (fun v => k v [] [] []) = INDEX x i k := by unfold IX INDEX PURE qk; rfl
theorem ai_k {g : Bool} {s l : Nat} {x i : AV} : AI g s l x i (fun v => k v [] [] []) = AINDEX g s l x i k := by unfold AI AINDEX FIELD PURE qk; rfl
theorem lns_k {x : AV} : LNS x (fun v => k v [] [] []) = LENS x k := by unfold LNS LENS PURE qk; rfl
theorem lnl_k {x : AV} : LNL x (fun v => k v [] [] []) = LENL x k := by unfold LNL LENL PURE qk; rfl
theorem ex_k {x : AV} {i : Nat} : EX x i (fun v => k v [] [] []) = EXTR x i k := by unfold EX EXTR PURE qk; rfl
theorem bd_k {pl : Nat → Option (Nat × Nat)} {z : List AV} {ps : List (Nat × AV)} : BD pl z ps (fun v => k v [] [] []) = BUILD pl z ps k := by unfold BD BUILD PURE qk; rfl
theorem bi_k {op : BinOp} {x y : AV} : BI op x y (fun v => k v [] [] []) = BINI op x y k := by unfold BI BINI IBIN PURE qk; rfl
theorem bs_k {op : BinOp} {x y : AV} : BS op x y (fun v => k v [] [] []) = BINS op x y k := by unfold BS BINS SBIN PURE qk; rfl
theorem bb_k {op : BinOp} {x y : AV} : BB op x y (fun v => k v [] [] []) = BINB op x y k := by unfold BB BINB PURE qk; rfl
theorem ba_k {s : Nat} {op : BinOp} {x y : AV} : BA s op x y (fun v => k v [] [] []) = BINA s op x y k := by unfold BA BINA PURE qk; rfl
theorem bp_k {op : BinOp} {x y : AV} : BP op x y (fun v => k v [] [] []) = BINP op x y k := by unfold BP BINP PURE qk; rfl
theorem uo_k {op : UnOp} {x : AV} : UO op x (fun v => k v [] [] []) = UN op x k := by unfold UO UN IBIN PURE qk; rfl
theorem cv_k {ki : IntKind} {x : AV} : CV ki x (fun v => k v [] [] []) = CONVI ki x k := by unfold CV CONVI PURE qk; rfl
theorem sls_k {x : AV} {lo hi : Option AV} : SLS x lo hi (fun v => k v [] [] []) = SLICES x lo hi k := by unfold SLS SLICES PURE qk; rfl
theorem sl0_k {x lo hi mx : AV} : SL0 x lo hi mx (fun v => k v [] [] []) = SLICE0 x lo hi mx k := by unfold SL0 SLICE0 PURE qk; rfl
theorem ldr_k {g : Bool} {s : Nat} {x : AV} {H : Heap} : LDR g s x H (fun v rd => k v rd [] []) = LOAD g s x H k := by unfold LDR LOAD; rfl
end

section
variable (T : Nat → Option AT) (eqs : Nat → Bool)
def dsop (e : Operand → AV) (H : Heap) (nx : Nat) (o : Oper) (k : Kt) : Prop :=
  match o.op with
  | .move x | .assign x => k (e x) [] [] []
  | .pick c a b => PK (e c) (e a) (e b) fun v => k v [] [] []
  | .alloc t => match T t with | some a => k (.ptr nx 0) [] [nx] [(nx, some (.row a.size a.zero))] | none => False
  | .box _ v => (e v).sure = true ∧ k (.ptr nx 0) [] [nx] [(nx, some (.row (e v).cells.length (e v).cells))]
  | .build t ps => match T t with
    | some ⟨.struct fs, _, _, zero⟩ => gd (fs.all fun p => sizeT T p.1 != 0) <| BD (placeOf T fs) zero (ps.toList.map fun p => (p.1, e p.2)) fun v => k v [] [] []
    | some ⟨.array _ el, _, _, zero⟩ => gd (sizeT T el != 0) <| BD (fun i => some (i * sizeT T el, sizeT T el)) zero (ps.toList.map fun p => (p.1, e p.2)) fun v => k v [] [] []
    | _ => False
  | .buildSlice t len ps => match T t with
    | some ⟨.slice el, _, _, _⟩ => match T el with
      | some a => gd (Nat.ble (len * a.size) 16777216 && Nat.blt 0 a.size) <| BSL len a.size a.zero (ps.toList.map fun p => (p.1, e p.2)) fun cells => k (.slc nx 0 len) [] [nx] [(nx, some (.row a.size cells))]
      | none => False
    | _ => False
  | .load t p => match T t with | some a => LDR a.kind.isAgg a.size (e p) H fun v rd => k v rd [] [] | none => False
  | .store t p v => match T t with | some a => STORE a.size (e p) (e v) H k | none => False
  | .nilCheck x => NC (e x) fun v => k v [] [] []
  | .binOp op t x y _ => match T t with
    | some ⟨.int _, _, _, _⟩ => BI op (e x) (e y) fun v => k v [] [] []
    | some ⟨.str, _, _, _⟩ => BS op (e x) (e y) fun v => k v [] [] []
    | some ⟨.bool, _, _, _⟩ => BB op (e x) (e y) fun v => k v [] [] []
    | some ⟨.struct _, sz, _, _⟩ => gd (eqs t) <| BA sz op (e x) (e y) fun v => k v [] [] []
    | some ⟨.array _ _, sz, _, _⟩ => gd (eqs t) <| BA sz op (e x) (e y) fun v => k v [] [] []
    | some ⟨.ptr, _, _, _⟩ => BP op (e x) (e y) fun v => k v [] [] []
    | _ => False
  | .unOp op _ x => UO op (e x) fun v => k v [] [] []
  | .convert s d x => match T s, T d with
    | some ⟨.int _, _, _, _⟩, some ⟨.int kd, _, _, _⟩ => CV kd (e x) fun v => k v [] [] []
    | _, _ => False
  | .makeFunc fn first cap => match fn, first.toList with
    | .func f, [] => k (.clo f (cap.toList.map e)) [] [] []
    | _, _ => False
  | .makeMap _ r => match r with
    | none => k (.amap nx) [] [nx] [(nx, some (.mp []))]
    | some _ => False
  | .makeSlice t l c => match T t with
    | some ⟨.slice el, _, _, _⟩ => match T el with
      | some a => gd (Nat.blt 0 a.size) <| MK a.bytes (e l) (e c) fun n => k (.slc nx 0 n) [] [nx] [(nx, some (.row a.size ((List.replicate n a.zero).flatten)))]
      | none => False
    | _ => False
  | .slice t x lo hi mx => match mx with
    | none => match T t with
      | some ⟨.slice el, _, _, _⟩ => gd (sizeT T el != 0) <| SLICE (sizeT T el) (e x) (lo.map e) (hi.map e) H k
      | some ⟨.str, _, _, _⟩ => SLS (e x) (lo.map e) (hi.map e) fun v => k v [] [] []
      | _ => False
    | some mx => match lo, hi with
      | some lo, some hi => match T t with
        | some ⟨.slice el, _, _, _⟩ => gd (sizeT T el != 0) <| SL0 (e x) (e lo) (e hi) (e mx) fun v => k v [] [] []
        | _ => False
      | _, _ => False
  | .fieldAddr t x f => match T t with
    | some ⟨.struct fs, _, _, _⟩ => match placeOf T fs f with | some (off, sz) => gd (sz != 0) <| FA off (e x) fun v => k v [] [] [] | none => False
    | _ => False
  | .field t x f => match T t with
    | some ⟨.struct fs, _, _, _⟩ => match fs[f]? with
      | some (ft, off) => match T ft with | some a => FI a.kind.isAgg a.size off (e x) fun v => k v [] [] [] | none => False
      | none => False
    | _ => False
  | .indexAddr t x i => match T t with
    | some ⟨.slice el, _, _, _⟩ => gd (sizeT T el != 0) <| IA (sizeT T el) (e x) (e i) fun v => k v [] [] []
    | some ⟨.array n el, _, _, _⟩ => gd (sizeT T el != 0) <| AA (sizeT T el) n (e x) (e i) fun v => k v [] [] []
    | _ => False
  | .index t x i => match T t with
    | some ⟨.str, _, _, _⟩ => IX (e x) (e i) fun v => k v [] [] []
    | some ⟨.array n el, _, _, _⟩ => match T el with | some a => AI a.kind.isAgg a.size n (e x) (e i) fun v => k v [] [] [] | none => False
    | _ => False
  | .lookup t m key ok => match T t with
    | some ⟨.map kt el, _, _, _⟩ => match T el, T kt with | some a, some ka => keyFit ka.kind (e key) = true ∧ LOOK a.zero a.kind.isAgg (e m) (e key) ok H k | _, _ => False
    | _ => False
  | .mapUpdate t m key v | .insert t m key v => match T t with
    | some ⟨.map kt _, _, _, _⟩ => match T kt with | some ka => keyFit ka.kind (e key) = true ∧ MUPD (e m) (e key) (e v) H k | none => False
    | _ => False
  | .extract x i => EX (e x) i fun v => k v [] [] []
  | .call c => match c.callee, c.args.toList, c.argTypes.toList with
    | .builtin .len, [x], [t] => match T t with
      | some ⟨.str, _, _, _⟩ => LNS (e x) fun v => k v [] [] []
      | some ⟨.slice _, _, _, _⟩ => LNL (e x) fun v => k v [] [] []
      | some ⟨.map _ _, _, _, _⟩ => LENM (e x) H k
      | _ => False
    | .builtin .append, [s, x], [t, t2] => match T t with
      | some ⟨.slice el, _, _, _⟩ => match T el with | some a => gd (Nat.blt 0 a.size && Nat.blt 0 a.bytes && listOk T t2) <| APPEND a.size a.bytes (e s) (e x) H nx k | none => False
      | _ => False
    | .builtin .copy, [d, x], [t, _] => match T t with
      | some ⟨.slice el, _, _, _⟩ => match T el with | some a => gd (Nat.blt 0 a.size) <| COPY a.size (e d) (e x) H k | none => False
      | _ => False
    | _, _, _ => False
  | _ => False


theorem dsop_aop {e : Operand → AV} {H : Heap} {nx : Nat} {o : Oper} {k : Kt} (h : dsop T eqs e H nx o k) : aop T eqs e H nx o k := by
  cases hop : o.op <;> simp only [dsop, hop] at h <;> simp only [aop, hop]
  all_goals try simp only [pk_k, nc_k, fa_k, fi_k, ia_k, aa_k, ix_k, ai_k, lns_k, lnl_k, ex_k, bd_k, bi_k, bs_k, bb_k, ba_k, bp_k, uo_k, cv_k, sls_k, sl0_k, ldr_k] at h
  all_goals first | exact h | exact h.elim | skip
  all_goals
    repeat' split at h
    all_goals try simp only [gd_iff, bne_iff_ne, Bool.and_eq_true, Nat.blt_eq, Nat.ble_eq] at h
    all_goals try simp only [and_assoc] at h
  all_goals first | exact h.elim | (revert h; simp only [*]; intro h; exact h) | (revert h; simp only [*]; exact id) | skip
end
end Go.Proofs.Ytckhbfbbpdjmdaa
