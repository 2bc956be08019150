/- Each operation, reckoned: what it comes to, what it reads, what is new, what it changes. A function's text, run: what a call comes to, reckoned. A function's text, run: the steps. What a run comes to is so: operations, and calls. What a run comes to is so: the text. -/
import Derived.Test.YtiinnjjmoifoeaaGreatDoorG3
import Derived.Test.YtiinnjjmoifoeaaGreatDoorG5
import Derived.LoopN
set_option linter.unusedSimpArgs false
set_option linter.unusedVariables false
set_option maxRecDepth 8000
namespace Go.Proofs.YtiinnjjmoifoeaaGreatDoor
open Go Go.RowKit
abbrev XR := AV × List Nat × List Nat × zi
abbrev xp (v : AV) : Option XR := some (v, [], [], [])
abbrev xn (nx : Nat) (o : AObj) (v : AV) : Option XR := some (v, [], [nx], [(nx, some o)])
def xg (b : Bool) (r : Option XR) : Option XR := match b with | true => r | false => none
abbrev XOk (r : Option XR) (A : Kt → Prop) : Prop := ∀ v rd fr D, r = some (v, rd, fr, D) → ∀ k : Kt, k v rd fr D → A k
theorem XOk.none {A : Kt → Prop} : XOk none A := fun _ _ _ _ h => by cases h
theorem XOk.some {v : AV} {rd fr : List Nat} {D : zi} {A : Kt → Prop} (h : ∀ k : Kt, k v rd fr D → A k) : XOk (some (v, rd, fr, D)) A := fun _ _ _ _ e k hk => by cases e; exact h k hk
theorem XOk.pure {v : AV} : XOk (xp v) (PURE v) := XOk.some fun _ h => h
theorem XOk.new {nx : Nat} {o : AObj} {v : AV} : XOk (xn nx o v) (NEW nx o v) := XOk.some fun _ h => h
theorem XOk.gd {b : Bool} {r : Option XR} {A : Kt → Prop} (h : b = true → XOk r A) : XOk (xg b r) A := by
  cases b with
  | true => exact h rfl
  | false => exact XOk.none
theorem zff {b : Bool} {r : Option XR} {x : XR} : xg b r = some x ↔ b = true ∧ r = some x := by cases b <;> simp [xg]
theorem XOk.mono {r : Option XR} {A B : Kt → Prop} (h : XOk r A) (k : ∀ kt, A kt → B kt) : XOk r B := fun v rd fr D e kt hk => k kt (h v rd fr D e kt hk)
def zrc (c a b : AV) : Option XR := match c with | .bool t => xp (bif t then a else b) | _ => none
theorem zve {c a b : AV} : XOk (zrc c a b) (PICK c a b) := by
  unfold zrc PICK; split <;> first | exact XOk.pure | exact XOk.none
def zjy (agg : Bool) (sz : Nat) (p : AV) (H : Heap) : Option XR := match rdp H p with
  | some (cells, off, rd) => match ldv agg sz cells off with | some v => some (v, rd, [], []) | none => none
  | none => none
theorem zvh {agg : Bool} {sz : Nat} {p : AV} {H : Heap} : XOk (zjy agg sz p H) (LOAD agg sz p H) := by
  intro v rd fr D e k hk
  unfold zjy at e; unfold LOAD
  repeat' split at e
  all_goals (cases e <;> simp_all [PURE, NEW])
def zoh (sz : Nat) (p v : AV) (H : Heap) : Option XR := match p with
  | .ptr g off => match H g with
    | some (.row es cells) => xg (Nat.beq v.cells.length sz && Nat.ble (off + sz) cells.length && v.cells.all AV.one && v.sure) (some (.und, [g], [], [(g, some (.row es (zy cells off v.cells)))]))
    | _ => none
  | _ => none
theorem ztm {sz : Nat} {p v : AV} {H : Heap} : XOk (zoh sz p v H) (zbq sz p v H) := by
  intro v' rd fr D e k hk
  unfold zoh at e; unfold zbq
  repeat' split at e
  · simp only [zff, Bool.and_eq_true, Nat.beq_eq, Nat.ble_eq] at e
    obtain ⟨h, e⟩ := e
    cases e
    simp_all
  · cases e
  · cases e
def zrd (x : AV) : Option XR := match x with
  | .ptr _ _ | .rop _ _ | .clo _ _ => xp x
  | _ => none
theorem zvf {x : AV} : XOk (zrd x) (NILC x) := by
  unfold zrd NILC; split <;> first | exact XOk.pure | exact XOk.none
def zom (off : Nat) (p : AV) : Option XR := match p with
  | .ptr g o => xp (.ptr g (o + off))
  | .rop cs o => xp (.rop cs (o + off))
  | _ => none
theorem ziz {off : Nat} {p : AV} : XOk (zom off p) (zgj off p) := by
  unfold zom zgj; split <;> first | exact XOk.pure | exact XOk.none
def zlm (agg : Bool) (sz off : Nat) (x : AV) : Option XR := match x with
  | .agg cs => match zjk agg sz off cs with | some v => xp v | none => none
  | _ => none
theorem zmw {agg : Bool} {sz off : Nat} {x : AV} : XOk (zlm agg sz off x) (zby agg sz off x) := by
  intro v rd fr D e k hk
  unfold zlm at e; unfold zby
  repeat' split at e
  all_goals (cases e <;> simp_all [PURE, NEW])
def xat (i : AV) (len : Nat) (f : Nat → Option XR) : Option XR := match i with
  | .int _ n => match n with
    | .ofNat m => xg (Nat.blt m len) (f m)
    | .negSucc _ => none
  | _ => none
theorem ziw {i : AV} {len : Nat} {f : Nat → Option XR} {A : Kt → Prop} (h : ∀ (k : IntKind) (m : Nat), i = .int k (m : Int) → m < len → XOk (f m) A) : XOk (xat i len f) A := by
  unfold xat
  split
  · split
    · exact XOk.gd fun hb => h _ _ rfl (by simpa using hb)
    · exact XOk.none
  · exact XOk.none
def zol (esz : Nat) (x i : AV) : Option XR := match x with
  | .slc g off len => xat i len fun m => xp (.ptr g (off + m * esz))
  | .ro xs => xat i xs.length fun m => match xs.getD m [] with | c => xg (Nat.beq c.length esz) (xp (.rop c 0))
  | _ => none
theorem ziy {esz : Nat} {x i : AV} : XOk (zol esz x i) (zin esz x i) := by
  unfold zol
  split
  · refine ziw fun k m e hm => ?_
    subst e
    exact XOk.pure.mono fun kt h => ⟨by omega, by omega, by simpa using h⟩
  · refine ziw fun k m e hm => ?_
    subst e
    refine XOk.gd fun hb => ?_
    exact XOk.pure.mono fun kt h => ⟨by omega, by omega, by simpa using hb, by simpa using h⟩
  · exact XOk.none
def ztp (esz len : Nat) (p i : AV) : Option XR := xat i len fun m => match p with
  | .ptr g o => xp (.ptr g (o + m * esz))
  | .rop cs o => xp (.rop cs (o + m * esz))
  | _ => none
theorem zjb {esz len : Nat} {p i : AV} : XOk (ztp esz len p i) (zio esz len p i) := by
  refine ziw fun k m e hm => ?_
  subst e
  split
  · exact XOk.pure.mono fun kt h => ⟨by omega, by omega, by simpa using h⟩
  · exact XOk.pure.mono fun kt h => ⟨by omega, by omega, by simpa using h⟩
  · exact XOk.none
def zoj (x i : AV) : Option XR := match x with
  | .str s => xat i s.length fun m => xp (.int .u8 ((s.getD m 0).toNat : Int))
  | _ => none
theorem ztn {x i : AV} : XOk (zoj x i) (zim x i) := by
  unfold zoj
  split
  · refine ziw fun k m e hm => ?_
    subst e
    exact XOk.pure.mono fun kt h => ⟨by omega, by omega, by simpa using h⟩
  · exact XOk.none
def zqo (agg : Bool) (esz len : Nat) (x i : AV) : Option XR := xat i len fun m => zlm agg esz (m * esz) x
theorem zrv {agg : Bool} {esz len : Nat} {x i : AV} : XOk (zqo agg esz len x i) (zen agg esz len x i) := by
  refine ziw fun k m e hm => ?_
  subst e
  exact zmw.mono fun kt h => ⟨by omega, by omega, by simpa using h⟩
def zri (x : AV) : Option XR := match x with
  | .str s => xp (.int .i64 (.ofNat s.length))
  | _ => none
theorem zvi {x : AV} : XOk (zri x) (LENS x) := by unfold zri LENS; split <;> first | exact XOk.pure | exact XOk.none
def zrk (x : AV) : Option XR := match x with
  | .nils | .zs => xp (.int .i64 0)
  | .slc _ _ n => xp (.int .i64 (.ofNat n))
  | .ro xs => xp (.int .i64 (.ofNat xs.length))
  | _ => none
theorem zvk {x : AV} : XOk (zrk x) (LENL x) := by unfold zrk LENL; split <;> first | exact XOk.pure | exact XOk.none
def zrj (x : AV) (H : Heap) : Option XR := match x with
  | .nilm => xp (.int .i64 0)
  | .amap g => match H g with | some (.mp es) => some (.int .i64 (.ofNat es.length), [g], [], []) | _ => none
  | _ => none
theorem zvj {x : AV} {H : Heap} : XOk (zrj x H) (LENM x H) := by
  intro v rd fr D e k hk
  unfold zrj at e; unfold LENM
  repeat' split at e
  all_goals (cases e <;> simp_all [PURE, NEW])
def zrl (x : AV) (i : Nat) : Option XR := match x with
  | .tup vs => match vs[i]? with | some v => xp v | none => none
  | _ => none
theorem zvl {x : AV} {i : Nat} : XOk (zrl x i) (EXTR x i) := by
  intro v rd fr D e k hk
  unfold zrl at e; unfold EXTR
  repeat' split at e
  all_goals (cases e <;> simp_all [PURE, NEW])
def zln (place : Nat → Option (Nat × Nat)) (zero : List AV) (parts : List (Nat × AV)) : Option XR := match zao place zero parts with
  | some cells => xp (.agg cells)
  | none => none
theorem zja {place : Nat → Option (Nat × Nat)} {zero : List AV} {parts : List (Nat × AV)} : XOk (zln place zero parts) (zdb place zero parts) := by
  intro v rd fr D e k hk
  unfold zln at e; unfold zdb
  repeat' split at e
  all_goals (cases e <;> simp_all [PURE, NEW])
def zmm (len esz : Nat) (zero : List AV) (parts : List (Nat × AV)) (r : AV) (nx : Nat) : Option XR :=
  match zao (fun i => some (i * esz, esz)) ((List.replicate len zero).flatten) parts with
  | some cells => xn nx (.row esz cells) r
  | none => none
theorem zhn {len esz : Nat} {zero : List AV} {parts : List (Nat × AV)} {r : AV} {nx : Nat} : XOk (zmm len esz zero parts r nx) (zjw len esz zero parts r nx) := by
  intro v rd fr D e k hk
  unfold zmm at e; unfold zjw
  repeat' split at e
  all_goals (cases e <;> simp_all [PURE, NEW])
def iLt : Int → Int → Bool
  | .ofNat a, .ofNat b => Nat.blt a b
  | .ofNat _, .negSucc _ => false
  | .negSucc _, .ofNat _ => true
  | .negSucc a, .negSucc b => Nat.blt b a
theorem zoy (a b : Int) : iLt a b = decide (a < b) := by
  rw [Bool.eq_iff_iff]
  cases a <;> cases b <;> simp [iLt] <;> omega
def iEq : Int → Int → Bool
  | .ofNat a, .ofNat b => Nat.beq a b
  | .negSucc a, .negSucc b => Nat.beq a b
  | _, _ => false
theorem zlu (a b : Int) : iEq a b = (a == b) := by
  rw [Bool.eq_iff_iff]
  cases a <;> cases b <;> simp [iEq]
  all_goals omega
def zhp (k : IntKind) (n : Int) : Int := match k, n with
  | .i64, .ofNat m => bif Nat.blt m 9223372036854775808 then .ofNat m else k.wrap n
  | .i64, .negSucc m => bif Nat.blt m 9223372036854775808 then .negSucc m else k.wrap n
  | _, _ => k.wrap n
theorem zoo (k : IntKind) (n : Int) : zhp k n = k.wrap n := by
  have key : ∀ z : Int, -9223372036854775808 ≤ z → z < 9223372036854775808 → IntKind.wrap .i64 z = z := by
    intro z h1 h2
    unfold IntKind.wrap
    have eb : IntKind.i64.bits = 64 := rfl
    have es : IntKind.i64.signed = true := rfl
    simp only [eb, es, Bool.true_and, decide_eq_true_eq]
    have e1 : (2 : Int) ^ 64 = 18446744073709551616 := by simp
    have e2 : (2 : Int) ^ (64 - 1) = 9223372036854775808 := by simp
    rw [e1, e2]
    split <;> omega
  unfold zhp
  split
  · rename_i m
    cases h : Nat.blt m 9223372036854775808 with
    | false => rw [cond_false]
    | true =>
      simp only [Nat.blt_eq] at h
      rw [cond_true, key _ (by simp only [Int.ofNat_eq_natCast]; omega) (by simp only [Int.ofNat_eq_natCast]; omega)]
  · rename_i m
    cases h : Nat.blt m 9223372036854775808 with
    | false => rw [cond_false]
    | true =>
      simp only [Nat.blt_eq] at h
      rw [cond_true, key _ (by omega) (by omega)]
  · rfl
def sEq : List UInt8 → List UInt8 → Bool
  | [], [] => true
  | a :: r, b :: s => Nat.beq a.toNat b.toNat && sEq r s
  | _, _ => false
theorem zot : ∀ a b : List UInt8, sEq a b = (a == b)
  | [], [] => rfl
  | [], _ :: _ => rfl
  | _ :: _, [] => rfl
  | a :: r, b :: s => by
    rw [Bool.eq_iff_iff]
    simp only [sEq, zot r s, Bool.and_eq_true, Nat.beq_eq, beq_iff_eq, List.cons.injEq]
    rw [UInt8.toNat_inj]
def zll (op : BinOp) (k : IntKind) (a b : Int) : Option XR := match op with
  | .add => xp (.int k (zhp k (a + b)))
  | .sub => xp (.int k (zhp k (a - b)))
  | .mul => xp (.int k (zhp k (a * b)))
  | .quo => xg (!iEq b 0) (xp (.int k (zhp k (a.tdiv b))))
  | .rem => xg (!iEq b 0) (xp (.int k (a.tmod b)))
  | .shl => xg (!iLt b 0) (xp (.int k (k.wrap (a * 2 ^ (min b.toNat k.bits)))))
  | .shr => xg (!iLt b 0) (xp (.int k (a.fdiv (2 ^ (min b.toNat k.bits)))))
  | .and | .or | .xor | .andNot => match zci op k a b with | some r => xp (.int k r) | none => none
  | .eql => xp (.bool (iEq a b))
  | .neq => xp (.bool (!iEq a b))
  | .lss => xp (.bool (iLt a b))
  | .leq => xp (.bool (!iLt b a))
  | .gtr => xp (.bool (iLt b a))
  | .geq => xp (.bool (!iLt a b))
theorem zok {op : BinOp} {k : IntKind} {a b : Int} : XOk (zll op k a b) (IBIN op k a b) := by
  unfold zll IBIN
  cases op <;> simp only [zoo, zlu, zoy]
  case quo => exact XOk.gd fun h => XOk.pure.mono fun kt hk => ⟨by simpa using h, hk⟩
  case rem => exact XOk.gd fun h => XOk.pure.mono fun kt hk => ⟨by simpa using h, hk⟩
  case shl => exact XOk.gd fun h => XOk.pure.mono fun kt hk => ⟨by simpa using h, hk⟩
  case shr => exact XOk.gd fun h => XOk.pure.mono fun kt hk => ⟨by simpa using h, hk⟩
  case and =>
    generalize zci .and k a b = r
    cases r <;> first | exact XOk.none | exact XOk.pure
  case or =>
    generalize zci .or k a b = r
    cases r <;> first | exact XOk.none | exact XOk.pure
  case xor =>
    generalize zci .xor k a b = r
    cases r <;> first | exact XOk.none | exact XOk.pure
  case andNot =>
    generalize zci .andNot k a b = r
    cases r <;> first | exact XOk.none | exact XOk.pure
  case eql => exact XOk.pure
  case neq => exact XOk.pure.mono fun kt h => by simpa [icmp, bne] using h
  case lss => exact XOk.pure
  case leq =>
    have : (!decide (b < a)) = decide (a ≤ b) := by rw [Bool.eq_iff_iff]; simp
    rw [this]; exact XOk.pure
  case gtr => exact XOk.pure
  case geq =>
    have : (!decide (a < b)) = decide (a ≥ b) := by rw [Bool.eq_iff_iff]; simp
    rw [this]; exact XOk.pure
  all_goals exact XOk.pure
def zrb (op : BinOp) (a b : List UInt8) : Option XR := match op with
  | .add => xg (Nat.ble (a.length + b.length) 9223372036854775807) (xp (.str (a ++ b)))
  | .eql => xp (.bool (sEq a b))
  | .neq => xp (.bool (!sEq a b))
  | .lss => xp (.bool (Op.bytesLess a b))
  | .leq => xp (.bool (Op.bytesLess a b || a == b))
  | .gtr => xp (.bool (!(Op.bytesLess a b || a == b)))
  | .geq => xp (.bool (!Op.bytesLess a b))
  | _ => none
theorem zvd {op : BinOp} {a b : List UInt8} : XOk (zrb op a b) (SBIN op a b) := by
  unfold zrb SBIN
  cases op <;> simp only [zot] <;> first | exact XOk.pure | exact XOk.none | skip
  exact XOk.gd fun h => XOk.pure.mono fun kt hk => ⟨by simpa using h, hk⟩
def zrs (op : BinOp) (x y : AV) : Option XR := match x, y with
  | .int k a, .int k' b => xg (zu op || decide (k' = k)) (zll op k a b)
  | _, _ => none
theorem zvp {op : BinOp} {x y : AV} : XOk (zrs op x y) (BINI op x y) := by
  unfold zrs BINI
  split
  · exact XOk.gd fun h => zok.mono fun kt hk => ⟨fun hs => by simpa [hs] using h, hk⟩
  · exact XOk.none
def zrp (op : BinOp) (x y : AV) : Option XR := match x, y with
  | .str a, .str b => zrb op a b
  | _, _ => none
theorem zvm {op : BinOp} {x y : AV} : XOk (zrp op x y) (BINS op x y) := by
  unfold zrp BINS
  split
  · exact zvd
  · exact XOk.none
def zru (op : BinOp) (x y : AV) : Option XR := match zt op with
  | some neg => match x, y with
    | .bool a, .bool b => xp (.bool (neg ^^ (a == b)))
    | _, _ => none
  | none => none
theorem zvr {op : BinOp} {x y : AV} : XOk (zru op x y) (BINB op x y) := by
  intro v rd fr D e k hk
  unfold zru at e; unfold BINB
  repeat' split at e
  all_goals (cases e <;> simp_all [PURE, NEW])
def znz (zs : List AV) (op : BinOp) (x y : AV) : Option XR := match zt op with
  | some neg => match x, y with
    | .agg a, .agg b => xg (zc zs a).isSome (match zc a b with | some t => xp (.bool (neg ^^ t)) | none => none)
    | _, _ => none
  | none => none
theorem zkx {zs : List AV} {op : BinOp} {x y : AV} : XOk (znz zs op x y) (BINA zs op x y) := by
  intro v rd fr D e k hk
  unfold znz at e; unfold BINA
  split at e
  · rename_i neg h1
    simp only [h1]
    split at e
    · rw [zff] at e
      obtain ⟨h, e⟩ := e
      refine ⟨h, ?_⟩
      split at e <;> cases e
      rename_i h3
      simp only [h3, PURE]; exact hk
    · cases e
  · cases e
def zrq (op : BinOp) (x y : AV) : Option XR := match zt op with
  | some neg => match x, y with
    | .nilp, v => match nilP v with | some t => xp (.bool (neg ^^ t)) | none => none
    | v, .nilp => match nilP v with | some t => xp (.bool (neg ^^ t)) | none => none
    | _, _ => none
  | none => none
theorem zvn {op : BinOp} {x y : AV} : XOk (zrq op x y) (BINP op x y) := by
  intro v rd fr D e k hk
  unfold zrq at e; unfold BINP
  repeat' split at e
  all_goals (cases e <;> simp_all [PURE, NEW])
def zrr (op : BinOp) (x y : AV) : Option XR := match zt op, y with
  | some neg, .nils => match x with
    | .nils => xp (.bool (neg ^^ true))
    | .zs => xp .bany
    | .ro xs => match xs with | [] => xp .bany | _ :: _ => xp (.bool (neg ^^ false))
    | .slc _ _ n => match n with | 0 => xp .bany | _ + 1 => xp (.bool (neg ^^ false))
    | _ => none
  | _, _ => none
theorem zvo {op : BinOp} {x y : AV} : XOk (zrr op x y) (BINL op x y) := by
  intro v rd fr D e k hk
  unfold zrr at e; unfold BINL
  repeat' split at e
  all_goals (cases e <;> simp_all [PURE])
def zrt (op : BinOp) (x y : AV) : Option XR := match zt op, y with
  | some neg, .inil => match x with
    | .inil => xp (.bool (neg ^^ true))
    | .ifc => xp (.bool (neg ^^ false))
    | _ => none
  | _, _ => none
theorem zvq {op : BinOp} {x y : AV} : XOk (zrt op x y) (BINF op x y) := by
  intro v rd fr D e k hk
  unfold zrt at e; unfold BINF
  repeat' split at e
  all_goals (cases e <;> simp_all [PURE])
def xUN (op : UnOp) (x : AV) : Option XR := match op, x with
  | .not, .bool b => xp (.bool (!b))
  | .neg, .int k n => zll .sub k 0 n
  | .xor, .int k n => zll .xor k (if k.signed then -1 else k.max) n
  | _, _ => none
theorem zzd {op : UnOp} {x : AV} : XOk (xUN op x) (UN op x) := by
  unfold xUN UN
  split <;> first | exact XOk.pure | exact zok | exact XOk.none
def xlh (lo hi : Option AV) (n : Nat) (f : Nat → Nat → Option XR) : Option XR := match lohi lo hi n with
  | some (a, b) => match a, b with
    | .ofNat a, .ofNat b => xg (Nat.ble a b && Nat.ble b n) (f a b)
    | _, _ => none
  | none => none
theorem zgu {lo hi : Option AV} {n : Nat} {f : Nat → Nat → Option XR} {A : Kt → Prop} (h : ∀ a b : Nat, lohi lo hi n = some ((a : Int), (b : Int)) → a ≤ b → b ≤ n → XOk (f a b) A) : XOk (xlh lo hi n f) A := by
  unfold xlh
  split
  · rename_i a b e
    split
    · refine XOk.gd fun hb => ?_
      simp only [Bool.and_eq_true, Nat.ble_eq] at hb
      exact h _ _ e hb.1 hb.2
    · exact XOk.none
  · exact XOk.none
def zmh (x : AV) (lo hi : Option AV) : Option XR := match x with
  | .str s => xlh lo hi s.length fun a b => xp (.str ((s.take b).drop a))
  | _ => none
theorem zra {x : AV} {lo hi : Option AV} : XOk (zmh x lo hi) (zel x lo hi) := by
  unfold zmh zel
  split
  · refine zgu fun a b e h1 h2 => XOk.pure.mono fun kt hk => ?_
    simp only [e]
    exact ⟨by omega, by omega, by omega, by simpa using hk⟩
  · exact XOk.none
def zoi (esz : Nat) (x : AV) (lo hi : Option AV) (H : Heap) : Option XR := match x with
  | .ro xs => xlh lo hi xs.length fun a b => xg (xs.all fun x => Nat.beq x.length esz) (xp (.ro ((xs.take b).drop a)))
  | .slc g off len => xlh lo hi len fun a b => match H g with
      | some (.row sz _) => xg (Nat.beq sz esz) (some (.slc g (off + a * esz) (b - a), [g], [], []))
      | _ => none
  | .nils => xlh lo hi 0 fun _ _ => xp .nils
  | .zs => xlh lo hi 0 fun _ _ => xp .zs
  | _ => none
theorem zix {esz : Nat} {x : AV} {lo hi : Option AV} {H : Heap} : XOk (zoi esz x lo hi H) (zai esz x lo hi H) := by
  unfold zoi zai
  split
  · refine zgu fun a b e h1 h2 => XOk.gd fun h3 => XOk.pure.mono fun kt hk => ?_
    simp only [e]
    exact ⟨by omega, by omega, by omega, fun x hx => by simpa using List.all_eq_true.1 h3 x hx, by simpa using hk⟩
  · refine zgu fun a b e h1 h2 => ?_
    split
    · rename_i sz cs hg
      refine XOk.gd fun h3 => XOk.some fun kt hk => ?_
      simp only [e]
      simp only [hg]
      refine ⟨by simpa using h3, by omega, by omega, by omega, ?_⟩
      have : ((b : Int) - (a : Int)).toNat = b - a := by omega
      rw [this]; simpa using hk
    · exact XOk.none
  · refine zgu fun a b e h1 h2 => XOk.pure.mono fun kt hk => ?_
    simp only [e]
    exact ⟨by omega, by omega, hk⟩
  · refine zgu fun a b e h1 h2 => XOk.pure.mono fun kt hk => ?_
    simp only [e]
    exact ⟨by omega, by omega, hk⟩
  · exact XOk.none
def zmj (x : AV) (lo hi mx : AV) : Option XR := match lo, hi, mx with
  | .int _ a, .int _ b, .int _ c => xg (iEq a 0 && iEq b 0 && iEq c 0) (match x with
    | .nils => xp .nils
    | .zs | .ro _ | .slc _ _ _ => xp .zs
    | _ => none)
  | _, _, _ => none
theorem zhl {x lo hi mx : AV} : XOk (zmj x lo hi mx) (zem x lo hi mx) := by
  unfold zmj zem
  split
  · refine XOk.gd fun h => ?_
    simp only [zlu, Bool.and_eq_true, beq_iff_eq] at h
    split <;> first | exact XOk.pure.mono fun kt hk => ⟨h.1.1, h.1.2, h.2, hk⟩ | exact XOk.none
  · exact XOk.none
def zon (k : IntKind) (x : AV) : Option XR := match x with | .int _ n => xp (.int k (zhp k n)) | _ => none
theorem zto {k : IntKind} {x : AV} : XOk (zon k x) (zgk k x) := by
  unfold zon zgk
  split
  · rw [zoo]; exact XOk.pure
  · exact XOk.none
def zmi (esz n : Nat) (x : AV) (lo hi : Option AV) (H : Heap) : Option XR := match x with
  | .ptr g off => xlh lo hi n fun a b => match H g with
      | some (.row sz cells) => xg (Nat.beq sz esz && Nat.ble (off + n * esz) cells.length) (some (.slc g (off + a * esz) (b - a), [g], [], []))
      | _ => none
  | _ => none
theorem zhk {esz n : Nat} {x : AV} {lo hi : Option AV} {H : Heap} : XOk (zmi esz n x lo hi H) (zfv esz n x lo hi H) := by
  unfold zmi zfv
  split
  · refine zgu fun a b e h1 h2 => ?_
    split
    · rename_i sz cs hg
      refine XOk.gd fun h3 => XOk.some fun kt hk => ?_
      simp only [Bool.and_eq_true, Nat.beq_eq, Nat.ble_eq] at h3
      simp only [e]
      simp only [hg]
      refine ⟨h3.1, h3.2, by omega, by omega, by omega, ?_⟩
      have : ((b : Int) - (a : Int)).toNat = b - a := by omega
      rw [this]; simpa using hk
    · exact XOk.none
  · exact XOk.none
def xMM (mn : Bool) (x y : AV) : Option AV := match x, y with
  | .int ki a, .int kj b => match decide (ki = kj) with
    | true => some (.int ki (bif mn then (bif iLt b a then b else a) else (bif iLt a b then b else a)))
    | false => none
  | _, _ => none
def zfg (mn : Bool) (x y : AV) : Option XR := match xMM mn x y with | some v => xp v | none => none
theorem zhm {mn : Bool} {x y : AV} : XOk (zfg mn x y) (zaw mn x y) := by
  unfold zfg xMM zaw
  split
  · rename_i h
    split at h
    · split at h
      · rename_i hk
        cases h
        refine XOk.pure.mono fun kt hk' => ⟨by simpa using hk, ?_⟩
        simp only [zoy] at hk'
        cases mn <;> simp only [cond_true, cond_false, Bool.cond_decide] at hk' ⊢ <;> exact hk'
      · cases h
    · cases h
  · exact XOk.none
def zrf (x y z : AV) : Option XR := match xMM false x y with | some v => zfg false v z | none => none
theorem zvg {x y z : AV} : XOk (zrf x y z) (MAX3 x y z) := by
  unfold zrf MAX3
  split
  · rename_i v h
    intro v' rd fr D e k hk
    refine zhm v [] [] [] (by unfold zfg; rw [h]) _ (zhm v' rd fr D e k hk)
  · exact XOk.none
def zml (x : AV) (H : Heap) : Option XR := match x with
  | .str _ => none
  | x => match ze 1 H x with
    | some (_, news, rd) => match bytesOf? news with
      | some s => some (.str s, rd, [], [])
      | none => none
    | none => none
theorem zro {x : AV} {H : Heap} : XOk (zml x H) (zbt x H) := by
  intro v rd fr D e k hk
  unfold zml at e; unfold zbt
  repeat' split at e
  all_goals (cases e <;> simp_all [PURE, NEW])
def zmk (x : AV) (nx : Nat) : Option XR := match x with
  | .str s => xn nx (.row 1 (s.map fun b => .int .u8 (b.toNat : Int))) (.slc nx 0 s.length)
  | _ => none
theorem zrn {x : AV} {nx : Nat} : XOk (zmk x nx) (zhh x nx) := by
  unfold zmk zhh; split <;> first | exact XOk.new | exact XOk.none
def zmn (esz bytes : Nat) (s x : AV) (H : Heap) (nx : Nat) : Option XR :=
  match ze esz H x with
  | some (m, news, rd) => xg (news.all AV.one) (match s with
    | .nils => match m with | 0 => some (.nils, rd, [], []) | m + 1 => xg (Nat.ble ((m + 1) * bytes) 140737488355328) (some (.slc nx 0 (m + 1), rd, [nx], [(nx, some (.row esz news))]))
    | .zs => match m with | 0 => some (.zs, rd, [], []) | m + 1 => xg (Nat.ble ((m + 1) * bytes) 140737488355328) (some (.slc nx 0 (m + 1), rd, [nx], [(nx, some (.row esz news))]))
    | .slc g off len => match H g with
      | some (.row sz cells) => xg (Nat.beq sz esz && Nat.ble (off + len * esz) cells.length && Nat.ble ((len + m) * bytes) 140737488355328)
          (some (.slc nx 0 (len + m), g :: rd, [nx], [(g, none), (nx, some (.row esz ((cells.drop off).take (len * esz) ++ news)))]))
      | _ => none
    | _ => none)
  | none => none
theorem zew {esz bytes : Nat} {s x : AV} {H : Heap} {nx : Nat} : XOk (zmn esz bytes s x H nx) (zad esz bytes s x H nx) := by
  unfold zmn zad
  cases hs : ze esz H x with
  | none => exact XOk.none
  | some p =>
    obtain ⟨m, news, rd⟩ := p
    refine XOk.gd fun h0 => ?_
    cases s
    case nils =>
      cases m with
      | zero => exact XOk.some fun kt hk => ⟨h0, fun _ => hk, fun h => absurd rfl h⟩
      | succ m => exact XOk.gd fun h => XOk.some fun kt hk => ⟨h0, fun h => by omega, fun _ => ⟨by simpa using h, hk⟩⟩
    case zs =>
      cases m with
      | zero => exact XOk.some fun kt hk => ⟨h0, fun _ => hk, fun h => absurd rfl h⟩
      | succ m => exact XOk.gd fun h => XOk.some fun kt hk => ⟨h0, fun h => by omega, fun _ => ⟨by simpa using h, hk⟩⟩
    case slc g off len =>
      cases hg : H g with
      | none => simp only [hg]; exact XOk.none
      | some ob =>
        cases ob with
        | row sz cells =>
          simp only [hg]
          refine XOk.gd fun h => XOk.some fun kt hk => ?_
          simp only [Bool.and_eq_true, Nat.beq_eq, Nat.ble_eq] at h
          exact ⟨h0, h.1.1, h.1.2, Nat.le_add_right_of_le h.2, hk⟩
        | mp es => simp only [hg]; exact XOk.none
        | it a b c => simp only [hg]; exact XOk.none
    all_goals exact XOk.none
def zrg (esz bytes : Nat) (zero : List AV) (l c : AV) (nx : Nat) : Option XR := match l, c with
  | .int _ n, .int _ m => match n with
    | .ofNat a => xg (iEq m n && Nat.ble a 140737488355328 && Nat.ble (a * bytes) 140737488355328) (xn nx (.row esz ((List.replicate a zero).flatten)) (.slc nx 0 a))
    | .negSucc _ => none
  | _, _ => none
theorem zku {esz bytes : Nat} {zero : List AV} {l c : AV} {nx : Nat} : XOk (zrg esz bytes zero l c nx) (MAKE esz bytes zero l c nx) := by
  unfold zrg MAKE
  split
  · split
    · refine XOk.gd fun h => XOk.new.mono fun kt hk => ?_
      simp only [zlu, Bool.and_eq_true, beq_iff_eq, Nat.ble_eq] at h
      exact ⟨h.1.1, by simp, by rw [Int.ofNat_eq_natCast]; omega, by simpa using h.2, by simpa using hk⟩
    · exact XOk.none
  · exact XOk.none
def zrm (esz : Nat) (d x : AV) (H : Heap) : Option XR :=
  match ze esz H x with
  | some (m, news, rd) => match d with
    | .nils | .zs => some (.int .i64 0, rd, [], [])
    | .slc g off len => match H g with
      | some (.row sz cells) => xg (Nat.beq sz esz && Nat.ble (off + len * esz) cells.length && news.all AV.one)
          (some (.int .i64 (min m len : Nat), g :: rd, [], [(g, some (.row sz (zy cells off (news.take (min m len * esz)))))]))
      | _ => none
    | _ => none
  | none => none
theorem zkw {esz : Nat} {d x : AV} {H : Heap} : XOk (zrm esz d x H) (COPY esz d x H) := by
  unfold zrm COPY
  cases hs : ze esz H x with
  | none => exact XOk.none
  | some p =>
    obtain ⟨m, news, rd⟩ := p
    cases d
    case nils => exact XOk.some fun _ h => h
    case zs => exact XOk.some fun _ h => h
    case slc g off len =>
      cases hg : H g with
      | none => simp only [hg]; exact XOk.none
      | some ob =>
        cases ob with
        | row sz cells =>
          simp only [hg]
          refine XOk.gd fun h => XOk.some fun kt hk => ?_
          simp only [Bool.and_eq_true, Nat.beq_eq, Nat.ble_eq] at h
          exact ⟨h.1.1, h.1.2, h.2, hk⟩
        | mp es => simp only [hg]; exact XOk.none
        | it a b c => simp only [hg]; exact XOk.none
    all_goals exact XOk.none
def zrh (zero : List AV) (agg : Bool) (m key : AV) (ok : Bool) (H : Heap) : Option XR :=
  match m with
  | .nilm => xp (bif ok then .tup [(bif agg then .agg zero else zero.getD 0 .junk), .bool false] else (bif agg then .agg zero else zero.getD 0 .junk))
  | .amap g => match H g with
    | some (.mp es) => match zx key es with
      | some (some (_, v)) => some (bif ok then .tup [v, .bool true] else v, [g], [], [])
      | some none => some (bif ok then .tup [(bif agg then .agg zero else zero.getD 0 .junk), .bool false] else (bif agg then .agg zero else zero.getD 0 .junk), [g], [], [])
      | none => none
    | _ => none
  | _ => none
theorem zkv {zero : List AV} {agg ok : Bool} {m key : AV} {H : Heap} : XOk (zrh zero agg m key ok H) (LOOK zero agg m key ok H) := by
  intro v rd fr D e k hk
  unfold zrh at e; unfold LOOK
  repeat' split at e
  all_goals (cases e <;> simp_all [PURE, NEW])
def zre (m key v : AV) (H : Heap) : Option XR := match m with
  | .amap g => match H g with
    | some (.mp es) => match zx key es with
      | some (some (i, _)) => some (.und, [g], [], [(g, some (.mp (es.set i (key, v))))])
      | some none => some (.und, [g], [], [(g, some (.mp (es ++ [(key, v)])))])
      | none => none
    | _ => none
  | _ => none
theorem zkt {m key v : AV} {H : Heap} : XOk (zre m key v H) (MUPD m key v H) := by
  intro v rd fr D e k hk
  unfold zre at e; unfold MUPD
  repeat' split at e
  all_goals (cases e <;> simp_all [PURE, NEW])
section
variable (T : Nat → Option AT) (eqs : Nat → Bool)
def xaop (e : Operand → AV) (H : Heap) (nx : Nat) (o : Oper) : Option XR :=
  match o.op with
  | .move x | .assign x => xp (e x)
  | .pick c a b => zrc (e c) (e a) (e b)
  | .alloc t => match T t with | some a => xn nx (.row (zoa T a) a.zero) (.ptr nx 0) | none => none
  | .box _ v => match e v with | v => xg v.sure (xn nx (.row v.cells.length v.cells) (.ptr nx 0))
  | .build t ps => match T t with
    | some ⟨.struct fs, _, _, zero⟩ => xg (fs.all fun p => za T p.1 != 0) (zln (zas T fs) zero (ps.toList.map fun p => (p.1, e p.2)))
    | some ⟨.array _ el, _, _, zero⟩ => xg (za T el != 0) (zln (fun i => some (i * za T el, za T el)) zero (ps.toList.map fun p => (p.1, e p.2)))
    | _ => none
  | .buildSlice t len ps => match T t with
    | some ⟨.slice el, _, _, _⟩ => match T el with
      | some a => xg (Nat.ble (len * a.size) 16777216 && Nat.blt 0 a.size) (zmm len a.size a.zero (ps.toList.map fun p => (p.1, e p.2)) (zv eqs t len nx) nx)
      | none => none
    | _ => none
  | .load t p => match T t with | some a => zjy a.kind.isAgg a.size (e p) H | none => none
  | .store t p v => match T t with | some a => zoh a.size (e p) (e v) H | none => none
  | .nilCheck x => zrd (e x)
  | .binOp op t x y _ => match T t with
    | some ⟨.int _, _, _, _⟩ => zrs op (e x) (e y)
    | some ⟨.str, _, _, _⟩ => zrp op (e x) (e y)
    | some ⟨.bool, _, _, _⟩ => zru op (e x) (e y)
    | some ⟨.struct _, _, _, zs⟩ => xg (eqs t) (znz zs op (e x) (e y))
    | some ⟨.array _ _, _, _, zs⟩ => xg (eqs t) (znz zs op (e x) (e y))
    | some ⟨.ptr _, _, _, _⟩ => zrq op (e x) (e y)
    | some ⟨.slice _, _, _, _⟩ => zrr op (e x) (e y)
    | some ⟨.iface, _, _, _⟩ => match y with | .const _ => zrt op (e x) (e y) | _ => none
    | _ => none
  | .unOp op _ x => xUN op (e x)
  | .convert s d x => match T s, T d with
    | some ⟨.int _, _, _, _⟩, some ⟨.int kd, _, _, _⟩ => zon kd (e x)
    | some ⟨.slice el, _, _, _⟩, some ⟨.str, _, _, _⟩ => match T el with
      | some ⟨.int .u8, _, _, _⟩ => zml (e x) H
      | _ => none
    | some ⟨.str, _, _, _⟩, some ⟨.slice el, _, _, _⟩ => match T el with
      | some ⟨.int .u8, _, _, _⟩ => zmk (e x) nx
      | _ => none
    | _, _ => none
  | .makeFunc fn first cap => match fn, first.toList with
    | .func f, [] => xp (.clo f (cap.toList.map e))
    | _, _ => none
  | .makeMap _ r => match r with
    | none => xn nx (.mp []) (.amap nx)
    | some _ => none
  | .makeSlice t l c => match T t with
    | some ⟨.slice el, _, _, _⟩ => match T el with | some a => xg (Nat.blt 0 a.size) (zrg a.size a.bytes a.zero (e l) (e c) nx) | none => none
    | _ => none
  | .slice t x lo hi mx => match mx with
    | none => match T t with
      | some ⟨.slice el, _, _, _⟩ => xg (za T el != 0) (zoi (za T el) (e x) (lo.map e) (hi.map e) H)
      | some ⟨.str, _, _, _⟩ => zmh (e x) (lo.map e) (hi.map e)
      | some ⟨.ptr ar, _, _, _⟩ => match T ar with
        | some ⟨.array n el, _, _, _⟩ => xg (za T el != 0) (zmi (za T el) n (e x) (lo.map e) (hi.map e) H)
        | _ => none
      | _ => none
    | some mx => match lo, hi with
      | some lo, some hi => match T t with
        | some ⟨.slice el, _, _, _⟩ => xg (za T el != 0) (zmj (e x) (e lo) (e hi) (e mx))
        | _ => none
      | _, _ => none
  | .fieldAddr t x f => match T t with
    | some ⟨.struct fs, _, _, _⟩ => match zas T fs f with | some (off, sz) => xg (sz != 0) (zom off (e x)) | none => none
    | _ => none
  | .field t x f => match T t with
    | some ⟨.struct fs, _, _, _⟩ => match fs[f]? with
      | some (ft, off) => match T ft with | some a => zlm a.kind.isAgg a.size off (e x) | none => none
      | none => none
    | _ => none
  | .indexAddr t x i => match T t with
    | some ⟨.slice el, _, _, _⟩ => xg (za T el != 0) (zol (za T el) (e x) (e i))
    | some ⟨.array n el, _, _, _⟩ => xg (za T el != 0) (ztp (za T el) n (e x) (e i))
    | _ => none
  | .index t x i => match T t with
    | some ⟨.str, _, _, _⟩ => zoj (e x) (e i)
    | some ⟨.array n el, _, _, _⟩ => match T el with | some a => zqo a.kind.isAgg a.size n (e x) (e i) | none => none
    | _ => none
  | .lookup t m key ok => match T t with
    | some ⟨.map kt el, _, _, _⟩ => match T el, T kt with | some a, some ka => xg (zbg ka.kind (e key)) (zrh a.zero a.kind.isAgg (e m) (e key) ok H) | _, _ => none
    | _ => none
  | .mapUpdate t m key v | .insert t m key v => match T t with
    | some ⟨.map kt _, _, _, _⟩ => match T kt with | some ka => xg (zbg ka.kind (e key)) (zre (e m) (e key) (e v) H) | none => none
    | _ => none
  | .extract x i => zrl (e x) i
  | .call c => match c.callee, c.args.toList, c.argTypes.toList with
    | .builtin .len, [x], [t] => match T t with
      | some ⟨.str, _, _, _⟩ => zri (e x)
      | some ⟨.slice _, _, _, _⟩ => zrk (e x)
      | some ⟨.map _ _, _, _, _⟩ => zrj (e x) H
      | _ => none
    | .builtin .min, [x, y], [_, _] => zfg true (e x) (e y)
    | .builtin .max, [x, y], [_, _] => zfg false (e x) (e y)
    | .builtin .max, [x, y, z], [_, _, _] => zrf (e x) (e y) (e z)
    | .builtin .append, [s, x], [t, t2] => match T t with
      | some ⟨.slice el, _, _, _⟩ => match T el with | some a => xg (Nat.blt 0 a.size && Nat.blt 0 a.bytes && (zeg T t2 || zgd T t2)) (zmn a.size a.bytes (e s) (srcV T t2 a.zero (e x)) H nx) | none => none
      | _ => none
    | .builtin .copy, [d, x], [t, _] => match T t with
      | some ⟨.slice el, _, _, _⟩ => match T el with | some a => xg (Nat.blt 0 a.size) (zrm a.size (e d) (e x) H) | none => none
      | _ => none
    | _, _, _ => none
  | _ => none
theorem zqn {e : Operand → AV} {H : Heap} {nx : Nat} {o : Oper} : XOk (xaop T eqs e H nx o) (aop T eqs e H nx o) := by
  intro v rd fr D h k hk
  cases hop : o.op <;> simp only [xaop, hop] at h <;> simp only [aop, hop]
  all_goals (repeat' split at h)
  all_goals first
    | (cases h; done)
    | (simp only [zff, Bool.and_eq_true, Nat.blt_eq, Nat.ble_eq, bne_iff_ne] at h; simp only [*])
    | simp only [*]
    | skip
  all_goals first
    | with_reducible exact hk
    | (cases h; exact hk)
    | with_reducible exact zve _ _ _ _ h _ hk
    | with_reducible exact zvh _ _ _ _ h _ hk
    | with_reducible exact ztm _ _ _ _ h _ hk
    | with_reducible exact zvf _ _ _ _ h _ hk
    | with_reducible exact zvp _ _ _ _ h _ hk
    | with_reducible exact zvm _ _ _ _ h _ hk
    | with_reducible exact zvr _ _ _ _ h _ hk
    | with_reducible exact zvn _ _ _ _ h _ hk
    | with_reducible exact zvo _ _ _ _ h _ hk
    | with_reducible exact zvq _ _ _ _ h _ hk
    | with_reducible exact zzd _ _ _ _ h _ hk
    | with_reducible exact zto _ _ _ _ h _ hk
    | with_reducible exact zro _ _ _ _ h _ hk
    | with_reducible exact zrn _ _ _ _ h _ hk
    | with_reducible exact zra _ _ _ _ h _ hk
    | with_reducible exact zmw _ _ _ _ h _ hk
    | with_reducible exact ztn _ _ _ _ h _ hk
    | with_reducible exact zrv _ _ _ _ h _ hk
    | with_reducible exact zvl _ _ _ _ h _ hk
    | with_reducible exact zvi _ _ _ _ h _ hk
    | with_reducible exact zvk _ _ _ _ h _ hk
    | with_reducible exact zvj _ _ _ _ h _ hk
    | with_reducible exact zhm _ _ _ _ h _ hk
    | with_reducible exact zvg _ _ _ _ h _ hk
    | (obtain ⟨hb, h⟩ := h; try simp only [true_and]
       first
        | (cases h; exact hk)
        | with_reducible exact zja _ _ _ _ h _ hk
        | with_reducible exact ⟨hb, zja _ _ _ _ h _ hk⟩
        | with_reducible exact ⟨hb.1, hb.2, zja _ _ _ _ h _ hk⟩
        | with_reducible exact zkx _ _ _ _ h _ hk
        | with_reducible exact ⟨hb, zkx _ _ _ _ h _ hk⟩
        | with_reducible exact ⟨hb.1, hb.2, zkx _ _ _ _ h _ hk⟩
        | with_reducible exact zix _ _ _ _ h _ hk
        | with_reducible exact ⟨hb, zix _ _ _ _ h _ hk⟩
        | with_reducible exact ⟨hb.1, hb.2, zix _ _ _ _ h _ hk⟩
        | with_reducible exact zhk _ _ _ _ h _ hk
        | with_reducible exact ⟨hb, zhk _ _ _ _ h _ hk⟩
        | with_reducible exact ⟨hb.1, hb.2, zhk _ _ _ _ h _ hk⟩
        | with_reducible exact zhl _ _ _ _ h _ hk
        | with_reducible exact ⟨hb, zhl _ _ _ _ h _ hk⟩
        | with_reducible exact ⟨hb.1, hb.2, zhl _ _ _ _ h _ hk⟩
        | with_reducible exact ziz _ _ _ _ h _ hk
        | with_reducible exact ⟨hb, ziz _ _ _ _ h _ hk⟩
        | with_reducible exact ⟨hb.1, hb.2, ziz _ _ _ _ h _ hk⟩
        | with_reducible exact ziy _ _ _ _ h _ hk
        | with_reducible exact ⟨hb, ziy _ _ _ _ h _ hk⟩
        | with_reducible exact ⟨hb.1, hb.2, ziy _ _ _ _ h _ hk⟩
        | with_reducible exact zjb _ _ _ _ h _ hk
        | with_reducible exact ⟨hb, zjb _ _ _ _ h _ hk⟩
        | with_reducible exact ⟨hb.1, hb.2, zjb _ _ _ _ h _ hk⟩
        | with_reducible exact zku _ _ _ _ h _ hk
        | with_reducible exact ⟨hb, zku _ _ _ _ h _ hk⟩
        | with_reducible exact ⟨hb.1, hb.2, zku _ _ _ _ h _ hk⟩
        | with_reducible exact zkw _ _ _ _ h _ hk
        | with_reducible exact ⟨hb, zkw _ _ _ _ h _ hk⟩
        | with_reducible exact ⟨hb.1, hb.2, zkw _ _ _ _ h _ hk⟩
        | with_reducible exact zkv _ _ _ _ h _ hk
        | with_reducible exact ⟨hb, zkv _ _ _ _ h _ hk⟩
        | with_reducible exact ⟨hb.1, hb.2, zkv _ _ _ _ h _ hk⟩
        | with_reducible exact zkt _ _ _ _ h _ hk
        | with_reducible exact ⟨hb, zkt _ _ _ _ h _ hk⟩
        | with_reducible exact ⟨hb.1, hb.2, zkt _ _ _ _ h _ hk⟩
        | with_reducible exact zhn _ _ _ _ h _ hk
        | with_reducible exact ⟨hb, zhn _ _ _ _ h _ hk⟩
        | with_reducible exact ⟨hb.1, hb.2, zhn _ _ _ _ h _ hk⟩
        | with_reducible exact zew _ _ _ _ h _ hk
        | with_reducible exact ⟨hb, zew _ _ _ _ h _ hk⟩
        | with_reducible exact ⟨hb.1, hb.2, zew _ _ _ _ h _ hk⟩
        | exact ⟨hb.1.1, hb.1.2, hb.2, zew _ _ _ _ h _ hk⟩)
    | skip
end
end Go.Proofs.YtiinnjjmoifoeaaGreatDoor
set_option maxRecDepth 8000
namespace Go.Proofs.YtiinnjjmoifoeaaGreatDoor
open Go Go.RowKit
/-! Trees by number. -/
inductive Tr (α : Type) where
  | nil
  | node (v : Option α) (l r : Tr α)
noncomputable def Tr.get {α : Type} (t : Tr α) : Nat → Option α :=
  Tr.rec (motive := fun _ => Nat → Option α) (fun _ => none) (fun v _ _ gl gr k => match k with
    | 0 => v
    | k + 1 => bif Nat.beq (Nat.mod k 2) 0 then gl (Nat.div k 2) else gr (Nat.div k 2)) t
def Tr.setK {α β : Type} : Nat → Tr α → Nat → Option α → (Tr α → β) → β
  | 0, t, _, _, c => c t
  | f + 1, t, k, v, c => match k with
    | 0 => match t with
      | .nil => c (.node v .nil .nil)
      | .node _ l r => c (.node v l r)
    | k + 1 => match t with
      | .nil => bif Nat.beq (Nat.mod k 2) 0 then Tr.setK f .nil (Nat.div k 2) v fun l => c (.node none l .nil) else Tr.setK f .nil (Nat.div k 2) v fun r => c (.node none .nil r)
      | .node w l r => bif Nat.beq (Nat.mod k 2) 0 then Tr.setK f l (Nat.div k 2) v fun l => c (.node w l r) else Tr.setK f r (Nat.div k 2) v fun r => c (.node w l r)
def Tr.set {α : Type} (t : Tr α) (k : Nat) (v : Option α) : Tr α := Tr.setK (k + 1) t k v id
theorem Tr.setK_eq {α β : Type} : ∀ (f : Nat) (t : Tr α) (k : Nat) (v : Option α) (c : Tr α → β), Tr.setK f t k v c = c (Tr.setK f t k v id)
  | 0, t, k, v, c => rfl
  | f + 1, t, 0, v, c => by cases t <;> rfl
  | f + 1, t, k + 1, v, c => by
    cases t with
    | nil =>
      simp only [Tr.setK]
      cases Nat.beq (Nat.mod k 2) 0 with
      | true => exact (Tr.setK_eq f _ _ _ _).trans (congrArg c (Tr.setK_eq f _ _ _ (fun l => Tr.node none l .nil)).symm)
      | false => exact (Tr.setK_eq f _ _ _ _).trans (congrArg c (Tr.setK_eq f _ _ _ (fun r => Tr.node none .nil r)).symm)
    | node w l r =>
      simp only [Tr.setK]
      cases Nat.beq (Nat.mod k 2) 0 with
      | true => exact (Tr.setK_eq f _ _ _ _).trans (congrArg c (Tr.setK_eq f _ _ _ (fun l => Tr.node w l r)).symm)
      | false => exact (Tr.setK_eq f _ _ _ _).trans (congrArg c (Tr.setK_eq f _ _ _ (fun r => Tr.node w l r)).symm)
theorem Tr.get_nil {α : Type} (j : Nat) : (Tr.nil : Tr α).get j = none := rfl
theorem Tr.get_set {α : Type} : ∀ (f : Nat) (t : Tr α) (k : Nat) (v : Option α) (j : Nat), k < f → (Tr.setK f t k v id).get j = if j = k then v else t.get j
  | 0, t, k, v, j, h => by omega
  | f + 1, t, 0, v, j, _ => by
    cases t <;> cases j <;> simp [Tr.setK, Tr.get]
  | f + 1, t, k + 1, v, j, h => by
    have hk : Nat.div k 2 < f := by have : Nat.div k 2 = k / 2 := rfl; omega
    have e2 : ∀ a : Nat, Nat.div a 2 = a / 2 := fun _ => rfl
    have m2 : ∀ a : Nat, Nat.mod a 2 = a % 2 := fun _ => rfl
    cases t with
    | nil =>
      simp only [Tr.setK]
      cases hb : Nat.beq (Nat.mod k 2) 0 with
      | true =>
        simp only [cond_true]
        rw [Tr.setK_eq]
        cases j with
        | zero => simp [Tr.get]
        | succ j =>
          show (bif Nat.beq (Nat.mod j 2) 0 then (Tr.setK f .nil (Nat.div k 2) v id).get (Nat.div j 2) else (Tr.nil : Tr α).get (Nat.div j 2)) = _
          rw [Nat.beq_eq, m2] at hb
          cases hj : Nat.beq (Nat.mod j 2) 0 with
          | true =>
            rw [Nat.beq_eq, m2] at hj
            simp only [cond_true]
            rw [Tr.get_set f _ _ _ _ hk, e2, e2]
            by_cases he : j = k
            · simp [he]
            · rw [if_neg (by omega), if_neg (by omega)]; rfl
          | false =>
            rw [← Bool.not_eq_true, Nat.beq_eq, m2] at hj
            simp only [cond_false]
            rw [if_neg (by omega)]; rfl
      | false =>
        simp only [cond_false]
        rw [Tr.setK_eq]
        cases j with
        | zero => simp [Tr.get]
        | succ j =>
          show (bif Nat.beq (Nat.mod j 2) 0 then (Tr.nil : Tr α).get (Nat.div j 2) else (Tr.setK f .nil (Nat.div k 2) v id).get (Nat.div j 2)) = _
          rw [← Bool.not_eq_true, Nat.beq_eq, m2] at hb
          cases hj : Nat.beq (Nat.mod j 2) 0 with
          | true =>
            rw [Nat.beq_eq, m2] at hj
            simp only [cond_true]
            rw [if_neg (by omega)]; rfl
          | false =>
            rw [← Bool.not_eq_true, Nat.beq_eq, m2] at hj
            simp only [cond_false]
            rw [Tr.get_set f _ _ _ _ hk, e2, e2]
            by_cases he : j = k
            · simp [he]
            · rw [if_neg (by omega), if_neg (by omega)]; rfl
    | node w l r =>
      simp only [Tr.setK]
      cases hb : Nat.beq (Nat.mod k 2) 0 with
      | true =>
        simp only [cond_true]
        rw [Tr.setK_eq]
        cases j with
        | zero => simp [Tr.get]
        | succ j =>
          show (bif Nat.beq (Nat.mod j 2) 0 then (Tr.setK f l (Nat.div k 2) v id).get (Nat.div j 2) else r.get (Nat.div j 2)) = if _ then _ else (bif Nat.beq (Nat.mod j 2) 0 then l.get (Nat.div j 2) else r.get (Nat.div j 2))
          rw [Nat.beq_eq, m2] at hb
          cases hj : Nat.beq (Nat.mod j 2) 0 with
          | true =>
            rw [Nat.beq_eq, m2] at hj
            simp only [cond_true]
            rw [Tr.get_set f _ _ _ _ hk, e2, e2]
            by_cases he : j = k
            · simp [he]
            · rw [if_neg (by omega), if_neg (by omega)]
          | false =>
            rw [← Bool.not_eq_true, Nat.beq_eq, m2] at hj
            simp only [cond_false]
            rw [if_neg (by omega)]
      | false =>
        simp only [cond_false]
        rw [Tr.setK_eq]
        cases j with
        | zero => simp [Tr.get]
        | succ j =>
          show (bif Nat.beq (Nat.mod j 2) 0 then l.get (Nat.div j 2) else (Tr.setK f r (Nat.div k 2) v id).get (Nat.div j 2)) = if _ then _ else (bif Nat.beq (Nat.mod j 2) 0 then l.get (Nat.div j 2) else r.get (Nat.div j 2))
          rw [← Bool.not_eq_true, Nat.beq_eq, m2] at hb
          cases hj : Nat.beq (Nat.mod j 2) 0 with
          | true =>
            rw [Nat.beq_eq, m2] at hj
            simp only [cond_true]
            rw [if_neg (by omega)]
          | false =>
            rw [← Bool.not_eq_true, Nat.beq_eq, m2] at hj
            simp only [cond_false]
            rw [Tr.get_set f _ _ _ _ hk, e2, e2]
            by_cases he : j = k
            · simp [he]
            · rw [if_neg (by omega), if_neg (by omega)]
/-! Values, looked at before they are laid. -/
section
variable {β : Type}
def fN (n : Nat) (c : Nat → β) : β := match n with
  | 0 => c 0
  | m + 1 => c (Nat.succ m)
theorem zly (n : Nat) (c : Nat → β) : fN n c = c n := by cases n <;> rfl
def fI (n : Int) (c : Int → β) : β := match n with
  | .ofNat a => fN a fun a => c (.ofNat a)
  | .negSucc a => fN a fun a => c (.negSucc a)
theorem zaar (n : Int) (c : Int → β) : fI n c = c n := by cases n <;> simp [fI, zly]
def fL {α : Type} : List α → (List α → β) → β
  | [], c => c []
  | x :: r, c => fL r fun r => c (x :: r)
theorem zso {α : Type} : ∀ (l : List α) (c : List α → β), fL l c = c l
  | [], c => rfl
  | x :: r, c => by simp only [fL]; rw [zso r]
def fV0 (v : AV) (c : AV → β) : β := match v with
  | .int k n => fI n fun n => c (.int k n)
  | .bool b => match b with | true => c (.bool true) | false => c (.bool false)
  | .str s => fL s fun s => c (.str s)
  | .ptr g o => fN g fun g => fN o fun o => c (.ptr g o)
  | .slc g o n => fN g fun g => fN o fun o => fN n fun n => c (.slc g o n)
  | .amap g => fN g fun g => c (.amap g)
  | .ro xs => fL xs fun xs => c (.ro xs)
  | .rop cs o => fL cs fun cs => fN o fun o => c (.rop cs o)
  | .clo f xs => fL xs fun xs => c (.clo f xs)
  | .junk => c .junk | .und => c .und | .bany => c .bany | .nilp => c .nilp | .nils => c .nils | .nilf => c .nilf | .nilm => c .nilm | .zs => c .zs | .inil => c .inil | .ifc => c .ifc
  | .agg xs => c (.agg xs)
  | .tup xs => c (.tup xs)
theorem zlx (v : AV) (c : AV → β) : fV0 v c = c v := by
  cases v <;> simp only [fV0, zaar, zso, zly]
  rename_i b; cases b <;> rfl
def fCs : List AV → (List AV → β) → β
  | [], c => c []
  | x :: r, c => fV0 x fun x => fCs r fun r => c (x :: r)
theorem zpd : ∀ (l : List AV) (c : List AV → β), fCs l c = c l
  | [], c => rfl
  | x :: r, c => by simp only [fCs, zlx]; rw [zpd r]
def fV (v : AV) (c : AV → β) : β := match v with
  | .agg xs => fCs xs fun xs => c (.agg xs)
  | .tup xs => fCs xs fun xs => c (.tup xs)
  | v => fV0 v c
theorem zke (v : AV) (c : AV → β) : fV v c = c v := by
  cases v <;> simp only [fV, zlx, zpd]
def fO (o : AObj) (c : AObj → β) : β := match o with
  | .row s cs => fCs cs fun cs => c (.row s cs)
  | .mp es => fL es fun es => c (.mp es)
  | .it g n l => fL l fun l => c (.it g n l)
theorem zxy (o : AObj) (c : AObj → β) : fO o c = c o := by cases o <;> simp only [fO, zpd, zso]
end
abbrev EB := Tr AV
abbrev HB := Tr AObj
noncomputable def toE (E : EB) : Env := fun k => match E.get k with | some v => v | none => .junk
noncomputable def toH (H : HB) : Heap := fun g => H.get g
section
variable {β : Type}
def putE (E : EB) (d : Option Nat) (v : AV) (c : EB → β) : β := match d with
  | none => c E
  | some t => Tr.setK (t + 1) E t (some v) c
def putD : zi → HB → (HB → β) → β
  | [], H, c => c H
  | (g, o) :: r, H, c => match o with
    | none => Tr.setK (g + 1) H g none fun H => putD r H c
    | some o => fO o fun o => Tr.setK (g + 1) H g (some o) fun H => putD r H c
end
def zkb (E : EB) (d : Option Nat) (v : AV) : EB := putE E d v id
def zcw (D : zi) (H : HB) : HB := putD D H id
theorem zka {β : Type} (E : EB) (d : Option Nat) (v : AV) (c : EB → β) : putE E d v c = c (zkb E d v) := by
  cases d with
  | none => rfl
  | some t => simp only [putE, zkb]; rw [Tr.setK_eq]
theorem zha {β : Type} : ∀ (D : zi) (H : HB) (c : HB → β), putD D H c = c (zcw D H)
  | [], H, c => rfl
  | (g, none) :: r, H, c => by
    simp only [putD, zcw]
    rw [Tr.setK_eq, Tr.setK_eq (c := fun H => putD r H id), zha r]; rfl
  | (g, some o) :: r, H, c => by
    simp only [putD, zcw, zxy]
    rw [Tr.setK_eq, Tr.setK_eq (c := fun H => putD r H id), zha r]; rfl
theorem zcf (E : EB) (d : Option Nat) (v : AV) : toE (zkb E d v) = (toE E).putO d v := by
  cases d with
  | none => rfl
  | some t =>
    funext u
    show (match (Tr.setK (t + 1) E t (some v) id).get u with | some v => v | none => .junk) = bif Nat.beq u t then v else toE E u
    rw [Tr.get_set _ _ _ _ _ (Nat.lt_succ_self _)]
    by_cases h : u = t
    · subst h; simp
    · have : Nat.beq u t = false := by rw [← Bool.not_eq_true, Nat.beq_eq]; exact h
      rw [if_neg h, this]; rfl
theorem zmq (H : HB) (g : Nat) (o : Option AObj) : toH (Tr.setK (g + 1) H g o id) = (toH H).put g o := by
  funext u
  show (Tr.setK (g + 1) H g o id).get u = bif Nat.beq u g then o else toH H u
  rw [Tr.get_set _ _ _ _ _ (Nat.lt_succ_self _)]
  by_cases h : u = g
  · subst h; simp
  · have : Nat.beq u g = false := by rw [← Bool.not_eq_true, Nat.beq_eq]; exact h
    rw [if_neg h, this]; rfl
theorem zgw : ∀ (D : zi) (H : HB), toH (zcw D H) = (toH H).apply D
  | [], H => rfl
  | (g, none) :: r, H => by
    simp only [zcw, putD]
    rw [Tr.setK_eq, show putD r _ id = zcw r _ from rfl, zgw r, zmq]; rfl
  | (g, some o) :: r, H => by
    simp only [zcw, putD, zxy]
    rw [Tr.setK_eq, show putD r _ id = zcw r _ from rfl, zgw r, zmq]; rfl
/-! Are two values the same? -/
def all2 {α : Type} (p : α → α → Bool) : List α → List α → Bool
  | [], [] => true
  | x :: r, y :: s => p x y && all2 p r s
  | _, _ => false
theorem zdf {α : Type} {p : α → α → Bool} (h : ∀ x y, p x y = true → x = y) : ∀ l m : List α, all2 p l m = true → l = m
  | [], [], _ => rfl
  | x :: r, y :: s, e => by
    simp only [all2, Bool.and_eq_true] at e
    rw [h x y e.1, zdf h r s e.2]
  | [], _ :: _, e => by cases e
  | _ :: _, [], e => by cases e
def avEq : Nat → AV → AV → Bool
  | 0, _, _ => false
  | n + 1, x, y => match x, y with
    | .int k a, .int j b => decide (k = j) && iEq a b
    | .bool a, .bool b => a == b
    | .str a, .str b => sEq a b
    | .nilp, .nilp | .nils, .nils | .nilf, .nilf | .nilm, .nilm | .zs, .zs | .inil, .inil => true
    | .ptr g o, .ptr h q => Nat.beq g h && Nat.beq o q
    | .slc g o n, .slc h q m => Nat.beq g h && Nat.beq o q && Nat.beq n m
    | .amap g, .amap h => Nat.beq g h
    | .ro a, .ro b => all2 (all2 (avEq n)) a b
    | .rop a o, .rop b q => all2 (avEq n) a b && Nat.beq o q
    | .agg a, .agg b => all2 (avEq n) a b
    | .tup a, .tup b => all2 (avEq n) a b
    | .clo f a, .clo g b => Nat.beq f g && all2 (avEq n) a b
    | _, _ => false
theorem zhg : ∀ (n : Nat) (x y : AV), avEq n x y = true → x = y
  | 0, x, y, h => by simp [avEq] at h
  | n + 1, x, y, h => by
    have ih := zhg n
    unfold avEq at h
    split at h <;> try simp only [Bool.and_eq_true, Nat.beq_eq, zlu, zot, beq_iff_eq, decide_eq_true_eq, reduceCtorEq] at h
    all_goals first
      | rfl
      | (cases h; done)
      | (obtain ⟨rfl, rfl⟩ := h; rfl)
      | (obtain ⟨⟨rfl, rfl⟩, rfl⟩ := h; rfl)
      | (subst h; rfl)
      | (rw [zdf (zdf ih) _ _ h])
      | (rw [zdf ih _ _ h])
      | (rw [zdf ih _ _ h.1, h.2])
      | (rw [zdf ih _ _ h.2, h.1])
def obEq (x y : Option AObj) : Bool := match x, y with
  | some (.row s a), some (.row t b) => Nat.beq s t && all2 (avEq 40) a b
  | some (.mp a), some (.mp b) => all2 (fun p q => avEq 40 p.1 q.1 && avEq 40 p.2 q.2) a b
  | none, none => true
  | _, _ => false
theorem zym {x y : Option AObj} (h : obEq x y = true) : x = y := by
  unfold obEq at h
  split at h
  · simp only [Bool.and_eq_true, Nat.beq_eq] at h
    rw [h.1, zdf (zhg 40) _ _ h.2]
  · rw [zdf (fun p q e => by simp only [Bool.and_eq_true] at e; exact Prod.ext (zhg 40 _ _ e.1) (zhg 40 _ _ e.2)) _ _ h]
  · rfl
  · cases h
end Go.Proofs.YtiinnjjmoifoeaaGreatDoor
set_option maxRecDepth 8000
namespace Go.Proofs.YtiinnjjmoifoeaaGreatDoor
open Go Go.RowKit
abbrev XCl := Nat → List AV → HB → Nat → Option (AV × HB × Nat)
noncomputable def isH (H : HB) (g : Nat) : Bool := match H.get g with | some _ => true | none => false
noncomputable def chkD (H : HB) (rd fr : List Nat) (D : zi) : Bool := rd.all (isH H) && D.all fun p => isH H p.1 || fr.any fun g => Nat.beq p.1 g
noncomputable def zfh (seen : List Nat) : Nat → List Nat
  | 0 => []
  | n + 1 => bif seen.any (fun j => Nat.beq j n) then zfh seen n else n :: zfh seen n
section
variable (T : Nat → Option AT) (eqs : Nat → Bool)
noncomputable def xpl (o : Oper) (e : Operand → AV) (H : HB) (nx : Nat) : Option XR := match o.op with
  | .range t x => xg (zob T t) (match e x with
    | .amap g => match H.get g with
      | some (.mp es) => some (.ptr nx 0, [g], [nx], [(nx, some (.it g es.length []))])
      | _ => none
    | _ => none)
  | .next x false => match e x with
    | .ptr y 0 => match H.get y with
      | some (.it g n seen) => match H.get g with
        | some (.mp es) => xg (Nat.beq es.length n) (match zfh seen n with
          | [] => some (.tup [.bool false], [y, g], [], [])
          | [i] => match es[i]? with
            | some e => some (.tup [.bool true, e.1, e.2], [y, g], [], [(y, some (.it g n (seen ++ [i])))])
            | none => none
          | _ => none)
        | _ => none
      | _ => none
    | _ => none
  | .entry x => match e x with
    | .ptr y 0 => match H.get y with
      | some (.it g n seen) => match H.get g with
        | some (.mp es) => xg (Nat.beq es.length n) (match seen.getLast? with
          | some i => match es[i]? with
            | some e => some (.tup [e.1, e.2], [y, g], [], [])
            | none => none
          | none => none)
        | _ => none
      | _ => none
    | _ => none
  | _ => xaop T eqs e (toH H) nx o
section
variable {β : Type} (call : XCl)
noncomputable def xcal (o : Oper) (e : Operand → AV) : Option (Nat × List AV) := match o.op with
  | .call c => match c.callee with
    | .value f => match e f with
      | .clo f cap => some (f, c.args.toList.map e ++ cap)
      | _ => none
    | _ => none
  | _ => none
noncomputable def zjx (o : Oper) (E : EB) (H : HB) (nx : Nat) (c : AV → HB → Nat → Option β) : Option β := match isCl o with
  | true => match xcal o (toE E).ev with
    | some (f, args) => match call f args H nx with
      | some (v, H, nx) => c v H nx
      | none => none
    | none => none
  | false => match xpl T eqs o (toE E).ev H nx with
    | some (v, rd, fr, D) => match chkD H rd fr D with
      | true => fV v fun v => putD D H fun H => fN (nx + fr.length) fun nx => c v H nx
      | false => none
    | none => none
noncomputable def xops (all : List Oper) : List Oper → zae → EB → HB → Nat → (EB → HB → Nat → Option β) → Option β
  | [], _, E, H, nx, c => c E H nx
  | o :: r, kn, E, H, nx, c => match o.guard with
    | none => zjx T eqs call o E H nx fun v H nx => putE E o.dst v fun E => xops all r (zax o.dst kn) E H nx c
    | some (j, want) => match gdst all j with
      | none => none
      | some t => match zhy t kn with
        | some none => putE E o.dst .und fun E => xops all r (zbc o.dst kn) E H nx c
        | some (some b) => match b == want with
          | true => zjx T eqs call o E H nx fun v H nx => putE E o.dst v fun E => xops all r (zax o.dst kn) E H nx c
          | false => putE E o.dst .und fun E => xops all r (zbc o.dst kn) E H nx c
        | none => match toE E t with
          | .bool b => match b == want with
            | true => zjx T eqs call o E H nx fun v H nx => putE E o.dst v fun E => xops all r (zax o.dst ((t, some b) :: kn)) E H nx c
            | false => putE E o.dst .und fun E => xops all r (zbc o.dst ((t, some b) :: kn)) E H nx c
          | _ => none
/-! Where the order is drawn. -/
def zjl : Nat → AV → List Nat → List Nat
  | 0, _, l => l
  | n + 1, v, l => match v with
    | .ptr g _ | .slc g _ _ | .amap g => bif l.any (Nat.beq g) then l else g :: l
    | .agg xs | .tup xs | .clo _ xs => xs.foldl (fun l v => zjl n v l) l
    | _ => l
noncomputable def zgz (H : HB) : Nat → List Nat → List Nat → List Nat
  | 0, _, done => done
  | _ + 1, [], done => done
  | f + 1, g :: todo, done => bif done.any (Nat.beq g) then zgz H f todo done else match H.get g with
    | some (.row _ cs) => zgz H f (cs.foldl (fun l v => zjl 3 v l) todo) (g :: done)
    | some (.mp es) => zgz H f (es.foldl (fun l v => zjl 3 v.2 l) todo) (g :: done)
    | _ => zgz H f todo done
noncomputable def zap (H : HB) : List Nat → HB
  | [] => .nil
  | g :: r => match H.get g with
    | some o => Tr.setK (g + 1) (zap H r) g (some o) id
    | none => zap H r
noncomputable def zcj (H H' : HB) : List Nat → zi
  | [] => []
  | g :: r => match H'.get g with
    | o => match obEq (H.get g) o with
      | true => zcj H H' r
      | false => (g, o) :: zcj H H' r
def zbj (nx : Nat) : Nat → List Nat
  | 0 => []
  | n + 1 => nx :: zbj (nx + 1) n
noncomputable def zog (f : Nat) (args : List AV) (H : HB) (nx : Nat) : Option XR :=
  match zgz H 1000 (args.foldl (fun l v => zjl 3 v l) []) [] with
  | rs => match zap H rs with
    | H0 => match call f args H0 nx with
      | some (v, H1, nx1) => match zbj nx (nx1 - nx) with
        | fr => some (v, rs, fr, zcj H0 H1 rs ++ fr.map fun g => (g, H1.get g))
      | none => none
noncomputable def zlk (o : Oper) (E : EB) (H : HB) (nx : Nat) : Option XR := match isCl o with
  | true => match xcal o (toE E).ev with
    | some (f, args) => zog call f args H nx
    | none => none
  | false => xaop T eqs (toE E).ev (toH H) nx o
noncomputable def zhj (all : List Oper) : List Oper → zae → EB → HB → Nat → List Rec → (EB → HB → Nat → List Rec → Option β) → Option β
  | [], _, E, H, nx, log, c => c E H nx log
  | o :: r, kn, E, H, nx, log, c =>
    let run : zae → Option β := fun kn => match zlk T eqs call o E H nx with
      | some (v, rd, fr, D) => match chkD H rd fr D with
        | true => fV v fun v => putD D H fun H' => fN (nx + fr.length) fun nx' => putE E o.dst v fun E' => zhj all r (zax o.dst kn) E' H' nx' (log ++ [⟨v, rd, fr, D, false, fun _ => .junk, fun _ => none, ptOf T (toE E).ev o, isCl o⟩]) c
        | false => none
      | none => none
    let skip : zae → Option β := fun kn => putE E o.dst .und fun E' => zhj all r (zbc o.dst kn) E' H nx (log ++ [⟨.und, [], [], [], true, fun _ => .junk, fun _ => none, none, false⟩]) c
    match o.guard with
    | none => run kn
    | some (j, want) => match gdst all j with
      | none => none
      | some t => match zhy t kn with
        | some none => skip kn
        | some (some b) => match b == want with
          | true => run kn
          | false => skip kn
        | none => match toE E t with
          | .bool b => match b == want with
            | true => run ((t, some b) :: kn)
            | false => skip ((t, some b) :: kn)
          | _ => none
def zoc (l m : List Nat) : Bool := l.all fun g => !m.any (Nat.beq g)
def zaaz (g q : Nat) (v : AV) (D : zi) : Bool := D.all fun p => !Nat.beq p.1 g || match p.2 with
  | some (.row _ cs) => match cs[q]? with | some u => avEq 40 u v | none => false
  | _ => false
def zxr (a b : Rec) : Bool := match b.cl, a.pt with
  | true, some (.ptr g q) => zaaz g q a.v b.D
  | _, _ => zoc (domD b.D) a.rd
def zsg (L : List Rec) (p : Nat × Nat) : Bool := match L[p.1]?, L[p.2]? with
  | some a, some b => zoc (domD a.D) b.rd && zoc (domD a.D) (domD b.D) && zxr a b
  | _, _ => false
/-! The text. -/
inductive XO where
  | nrm | exi (i : Nat) | ret
noncomputable def zlj (body : EB → HB → Nat → Option (XO × EB × HB × Nat)) : Nat → EB → HB → Nat → Option (XO × EB × HB × Nat)
  | 0, _, _, _ => none
  | n + 1, E, H, nx => match body E H nx with
    | some (x, E, H, nx) => match x with
      | .nrm => zlj body n E H nx
      | .exi i => some (.exi i, E, H, nx)
      | .ret => some (.ret, E, H, nx)
    | none => none
noncomputable def zaq : Code → EB → HB → Nat → Option (XO × EB × HB × Nat)
  | .skip, E, H, nx => some (.nrm, E, H, nx)
  | .label _, E, H, nx => some (.nrm, E, H, nx)
  | .exit i, E, H, nx => some (.exi i, E, H, nx)
  | .ret, E, H, nx => some (.ret, E, H, nx)
  | .region _ ops false, E, H, nx => xops T eqs call ops.toList ops.toList [] E H nx fun E H nx => some (.nrm, E, H, nx)
  | .region _ ops true, E, H, nx => zhj T eqs call ops.toList ops.toList [] E H nx [] fun E H nx log => match (zhe ops).all (zsg log) with
    | true => some (.nrm, E, H, nx)
    | false => none
  | .seq a b, E, H, nx => match zaq a E H nx with
    | some (x, E, H, nx) => match x with
      | .nrm => zaq b E H nx
      | .exi i => some (.exi i, E, H, nx)
      | .ret => some (.ret, E, H, nx)
    | none => none
  | .cond c a b, E, H, nx => match (toE E).ev c with
    | .bool t => match t with
      | true => zaq a E H nx
      | false => zaq b E H nx
    | _ => none
  | .block id a, E, H, nx => match zaq a E H nx with
    | some (x, E, H, nx) => match x with
      | .nrm => some (.nrm, E, H, nx)
      | .exi i => match Nat.beq i id with
        | true => some (.nrm, E, H, nx)
        | false => some (.exi i, E, H, nx)
      | .ret => some (.ret, E, H, nx)
    | none => none
  | .loop a, E, H, nx => zlj (zaq a) 3000 E H nx
  | .scope a, E, H, nx => zaq a E H nx
  | _, _, _, _ => none
noncomputable def xret : List ResultVar → EB → HB → (List AV → Option β) → Option β
  | [], _, _, c => c []
  | .tmp t :: r, E, H, c => fV0 (toE E t) fun v => xret r E H fun vs => c (v :: vs)
  | .cell a t :: r, E, H, c => match T t with
    | some at_ => match zjy at_.kind.isAgg at_.size (toE E a) (toH H) with
      | some (v, _, _, _) => fV v fun v => xret r E H fun vs => c (v :: vs)
      | none => none
    | none => none
noncomputable def zod : List AV → Nat → EB → (EB → Option β) → Option β
  | [], _, E, c => c E
  | v :: r, t, E, c => fV v fun v => Tr.setK (t + 1) E t (some v) fun E => zod r (t + 1) E c
end
noncomputable def xfun (P : Program) (ok : Nat → Bool) (orc : Nat → List AV → Option AV) (orcE : Nat → List AV → HB → Nat → Option XR) : Nat → XCl
  | 0, _, _, _, _ => none
  | n + 1, f, args, H, nx => match orc f args with
    | some v => some (v, H, nx)
    | none => match orcE f args H nx with
     | some (v, rd, fr, D) => match chkD H rd fr D with
       | true => fV v fun v => putD D H fun H => fN (nx + fr.length) fun nx => some (v, H, nx)
       | false => none
     | none => match ok f with
      | false => none
      | true => match P.funcs[f]? with
        | some fn => match fn.body with
          | some c => match Nat.ble args.length fn.ntmps with
            | true => zod args 0 .nil fun E => match zaq T eqs (xfun P ok orc orcE n) c E H nx with
              | some (x, E, H, nx) => match x with
                | .exi _ => none
                | .nrm => xret T fn.results.toList E H fun vs => some (match vs with | [v] => v | vs => .tup vs, H, nx)
                | .ret => xret T fn.results.toList E H fun vs => some (match vs with | [v] => v | vs => .tup vs, H, nx)
              | none => none
            | false => none
          | none => none
        | none => none
end
end Go.Proofs.YtiinnjjmoifoeaaGreatDoor
set_option maxRecDepth 8000
namespace Go.Proofs.YtiinnjjmoifoeaaGreatDoor
open Go Go.RowKit
theorem zfk {H : HB} {g : Nat} : isH H g = true ↔ ∃ o, toH H g = some o := by
  unfold isH toH
  cases H.get g <;> simp
theorem zdy {H : HB} {g : Nat} (h : ¬ isH H g = true) : toH H g = none := by
  cases e : toH H g with
  | none => rfl
  | some o => exact absurd (zfk.2 ⟨o, e⟩) h
def Tk (X : HB) (n0 nE : Nat) (g : Nat) : Prop := isH X g = true ∨ (n0 ≤ g ∧ g < nE)
open Classical in
noncomputable def mix (Hm : Heap) (X : HB) (n0 nE : Nat) (H : HB) : Heap := fun g => if Tk X n0 nE g then toH H g else Hm g
theorem zbe {Hm : Heap} {X : HB} {n0 nE : Nat} {H : HB} {g : Nat} (h : Tk X n0 nE g) : mix Hm X n0 nE H g = toH H g := if_pos h
theorem zch {Hm : Heap} {X : HB} {n0 nE : Nat} {H : HB} {g : Nat} (h : ¬ Tk X n0 nE g) : mix Hm X n0 nE H g = Hm g := if_neg h
def zyd (A : Nat → Prop) (ρ : Nat → Loc) (Hm : Heap) (w : World) (H : HB) (nx : Nat) (v : AV) (H' : HB) (nx' : Nat) (cv : Value) (w' : World) : Prop :=
  ∃ ρ', Sim (fun g => A g ∨ nx ≤ g ∧ g < nx') ρ' (mix Hm H nx nx' H') w' ∧ VRel (Kof ρ' (mix Hm H nx nx' H') w') ρ' (fun g => A g ∨ nx ≤ g ∧ g < nx') v cv ∧ Fr A ρ Hm w (fun g => A g ∨ nx ≤ g ∧ g < nx') ρ' (mix Hm H nx nx' H') w'
structure Does (P : Program) (H : HB) (nx : Nat) (v : AV) (H' : HB) (nx' : Nat) (pre : zf → (Nat → Loc) → (Nat → Prop) → Prop) (run : World → Result Next) : Prop where
  le : nx ≤ nx'
  dom : ∀ g, isH H' g = true → isH H g = true ∨ nx ≤ g ∧ g < nx'
  run : ∀ (A : Nat → Prop) (ρ : Nat → Loc) (Hm : Heap) (w : World), Bdd A → Sim A ρ Hm w → pre (Kof ρ Hm w) ρ A → (∀ g, isH H g = true → Hm g = toH H g) → (∀ g, nx ≤ g → g < nx' → ¬ A g) → zh P (zyd A ρ Hm w H nx v H' nx') (run w)
theorem zte {D : zi} : ∀ {H : Heap} {g : Nat} {o : AObj}, H.apply D g = some o → g ∈ domD D ∨ H g = some o := by
  intro H g o h
  by_cases hg : g ∈ domD D
  · exact .inl hg
  · rw [zay D H g hg] at h; exact .inr h
theorem znp {H : HB} {rd fr : List Nat} {D : zi} (h : chkD H rd fr D = true) : (∀ g ∈ rd, isH H g = true) ∧ ∀ g ∈ domD D, isH H g = true ∨ g ∈ fr := by
  unfold chkD at h
  simp only [Bool.and_eq_true, List.all_eq_true, Bool.or_eq_true, List.any_eq_true, Nat.beq_eq] at h
  refine ⟨h.1, fun g hg => ?_⟩
  obtain ⟨p, hp, rfl⟩ := List.mem_map.1 hg
  rcases h.2 p hp with h | ⟨x, hx, e⟩
  · exact .inl h
  · exact .inr (e ▸ hx)
theorem Does.of {P : Program} {H : HB} {nx : Nat} {v : AV} {rd fr : List Nat} {D : zi} {pre : zf → (Nat → Loc) → (Nat → Prop) → Prop} {run : World → Result Next}
    (he : ∀ (A : Nat → Prop) (ρ : Nat → Loc) (Hm : Heap) (w : World), Bdd A → Sim A ρ Hm w → pre (Kof ρ Hm w) ρ A → (∀ g ∈ rd, Hm g = toH H g) → (∀ g ∈ fr, ¬ A g) → zh P (zck A ρ Hm w v fr D) (run w))
    (hfr : ∀ g, g ∈ fr ↔ nx ≤ g ∧ g < nx + fr.length) (hc : chkD H rd fr D = true) : Does P H nx v (zcw D H) (nx + fr.length) pre run := by
  obtain ⟨c1, c2⟩ := znp hc
  refine ⟨by omega, fun g hg => ?_, fun A ρ Hm w hB s hx hag hfree => ?_⟩
  · obtain ⟨ob, h⟩ := zfk.1 hg
    rw [zgw] at h
    rcases zte h with h | h
    · rcases c2 g h with h | h
      · exact .inl h
      · exact .inr ((hfr g).1 h)
    · exact .inl (zfk.2 ⟨ob, h⟩)
  · refine zm (he A ρ Hm w hB s hx (fun g hg => hag g (c1 g hg)) fun g hg => hfree g ((hfr g).1 hg).1 ((hfr g).1 hg).2) fun cv w' ⟨ρ', q1, q2, q3⟩ => ?_
    have hA : (fun x => A x ∨ x ∈ fr) = (fun g => A g ∨ nx ≤ g ∧ g < nx + fr.length) := by funext g; rw [hfr]
    have hH : Hm.apply D = mix Hm H nx (nx + fr.length) (zcw D H) := by
      funext g
      by_cases ht : Tk H nx (nx + fr.length) g
      · rw [zbe ht, zgw]
        refine zdr D _ _ g (.inl ?_)
        by_cases hi : isH H g = true
        · exact hag g hi
        · rw [zdy hi]
          rcases ht with h | h
          · exact absurd h hi
          · cases e : Hm g with
            | none => rfl
            | some o => exact absurd (s.live g o e) (hfree g h.1 h.2)
      · rw [zch ht]
        refine zay D Hm g fun hg => ht ?_
        rcases c2 g hg with h | h
        · exact .inl h
        · exact .inr ((hfr g).1 h)
    rw [hA, hH] at q1 q2 q3
    exact ⟨ρ', q1, q2, q3⟩
theorem Does.eff {P : Program} {o : Oper} {e : Operand → AV} {H : HB} {nx : Nat} {v : AV} {rd fr : List Nat} {D : zi} (he : EffB P o e (toH H) rd fr D v) (hfr : ∀ g, g ∈ fr ↔ nx ≤ g ∧ g < nx + fr.length) (hc : chkD H rd fr D = true) (ev : Operand → Value) :
    Does P H nx v (zcw D H) (nx + fr.length) (fun K ρ A => ∀ x ∈ o.op.operands.toList, VRel K ρ A (e x) (ev x)) fun w => (execOp ev o).run P w :=
  Does.of (fun A ρ Hm w hB s hx hr hf => he A ρ Hm w ev hB s hx hr hf) hfr hc
theorem zpb {nx : Nat} {fr : List Nat} (h : fr = [] ∨ fr = [nx]) (g : Nat) : g ∈ fr ↔ nx ≤ g ∧ g < nx + fr.length := by
  rcases h with rfl | rfl
  · simp
  · simp; omega
theorem zco {seen : List Nat} : ∀ {n i : Nat}, i ∈ zfh seen n ↔ i < n ∧ i ∉ seen
  | 0, i => by simp [zfh]
  | n + 1, i => by
    unfold zfh
    cases h : seen.any (fun j => Nat.beq j n) with
    | true =>
      simp only [cond_true, zco]
      simp only [List.any_eq_true, Nat.beq_eq] at h
      obtain ⟨j, hj, rfl⟩ := h
      constructor
      · rintro ⟨h1, h2⟩; exact ⟨by omega, h2⟩
      · rintro ⟨h1, h2⟩
        exact ⟨by rcases Nat.lt_or_ge i j with h | h
                  · exact h
                  · exact absurd hj (by rwa [show j = i by omega]), h2⟩
    | false =>
      simp only [cond_false, List.mem_cons, zco]
      have hn : n ∉ seen := fun hn => by
        have : seen.any (fun j => Nat.beq j n) = true := List.any_eq_true.2 ⟨n, hn, by simp⟩
        rw [h] at this; cases this
      constructor
      · rintro (rfl | ⟨h1, h2⟩)
        · exact ⟨by omega, hn⟩
        · exact ⟨by omega, h2⟩
      · rintro ⟨h1, h2⟩
        rcases Nat.lt_or_ge i n with h | h
        · exact .inr ⟨h, h2⟩
        · exact .inl (by omega)
section
variable {P : Program} {T : Nat → Option AT} {eqs : Nat → Bool} (hT : TOk P T) (hE : EOk P T eqs)
include hT hE in
theorem zzc {o : Oper} {e : Operand → AV} {H : HB} {nx : Nat} {v : AV} {rd fr : List Nat} {D : zi} (h : xpl T eqs o e H nx = some (v, rd, fr, D)) : (fr = [] ∨ fr = [nx]) ∧ Eff P o e (toH H) rd fr D v := by
  unfold xpl at h
  split at h
  · rename_i t x hop
    rw [zff] at h
    obtain ⟨hm, h⟩ := h
    split at h
    · rename_i g hx
      split at h
      · rename_i es hg
        cases h
        unfold zob at hm
        split at hm
        · rename_i kt el s0 b0 z0 ht
          obtain ⟨i, d, z, hat⟩ := hT.at ht
          exact ⟨.inr rfl, zne hx hg (zhc hat) hop⟩
        · cases hm
      · cases h
    · cases h
  · rename_i x hop
    split at h
    · rename_i y hx
      split at h
      · rename_i g n seen hy
        split at h
        · rename_i es hg
          rw [zff] at h
          obtain ⟨hn, h⟩ := h
          rw [Nat.beq_eq] at hn
          split at h
          · rename_i hu
            cases h
            refine ⟨.inl rfl, fun A ρ H1 w ev s hv hrd hfr => zm (zlc s (by rw [← hx]; exact hv x (by simp [Op.operands, hop])) ((hrd y (by simp)).trans hy) ((hrd g (by simp)).trans hg) hn hop) fun cv w' q => ?_⟩
            rcases q with ⟨_, q⟩ | ⟨i, e, hi, hs, q⟩
            · exact q
            · have := zco (seen := seen) (n := n) (i := i) |>.2 ⟨by have := (List.getElem?_eq_some_iff.1 hi).1; omega, hs⟩
              rw [hu] at this; cases this
          · rename_i i hu
            split at h
            · rename_i u hu2
              cases h
              have hiu := zco (seen := seen) (n := n) (i := i) |>.1 (by rw [hu]; simp)
              refine ⟨.inl rfl, fun A ρ H1 w ev s hv hrd hfr => zm (zlc s (by rw [← hx]; exact hv x (by simp [Op.operands, hop])) ((hrd y (by simp)).trans hy) ((hrd g (by simp)).trans hg) hn hop) fun cv w' q => ?_⟩
              rcases q with ⟨hall, q⟩ | ⟨j, e, hj, hs, q⟩
              · exact absurd (hall i hiu.1) hiu.2
              · have := zco (seen := seen) (n := n) (i := j) |>.2 ⟨by have := (List.getElem?_eq_some_iff.1 hj).1; omega, hs⟩
                rw [hu, List.mem_singleton] at this
                subst this
                rw [hu2] at hj
                cases hj
                exact q
            · cases h
          · cases h
        · cases h
      · cases h
    · cases h
  · rename_i x hop
    split at h
    · rename_i y hx
      split at h
      · rename_i g n seen hy
        split at h
        · rename_i es hg
          rw [zff] at h
          obtain ⟨hn, h⟩ := h
          rw [Nat.beq_eq] at hn
          split at h
          · rename_i i hl
            split at h
            · rename_i u hu
              cases h
              exact ⟨.inl rfl, znk hx hy hg hn hl hu hop⟩
            · cases h
          · cases h
        · cases h
      · cases h
    · cases h
  · obtain ⟨v', rd', fr', D', h1, h2, h3⟩ := znt hT hE (zqn T eqs _ _ _ _ h (fun v' rd' fr' D' => v' = v ∧ rd' = rd ∧ fr' = fr ∧ D' = D) ⟨rfl, rfl, rfl, rfl⟩)
    obtain ⟨rfl, rfl, rfl, rfl⟩ := h3
    exact ⟨h1, h2⟩
def zcu (P : Program) (call : XCl) : Prop := ∀ f args H nx v H' nx', call f args H nx = some (v, H', nx') → ∀ cargs : Array Value, Does P H nx v H' nx' (fun K ρ A => LRel K ρ A args cargs.toList) fun w => (callFunc f cargs).run P w
theorem ztl {o : Oper} {e : Operand → AV} {f : Nat} {args : List AV} (h : xcal o e = some (f, args)) (ev : Operand → Value) {K : zf} {ρ : Nat → Loc} {A : Nat → Prop} (hx : ∀ x ∈ o.op.operands.toList, VRel K ρ A (e x) (ev x)) :
    ∃ cargs : Array Value, LRel K ρ A args cargs.toList ∧ ∀ w, (execOp ev o).run P w = (callFunc f cargs).run P w := by
  unfold xcal at h
  split at h
  · rename_i c hop
    split at h
    · rename_i y hc
      split at h
      · rename_i fid cap hf
        cases h
        have hfv := hx y (by simp [hop, Op.operands, Call.operands, hc])
        rw [hf] at hfv
        generalize hcv : ev y = cv at hfv
        cases hfv with
        | clo _ _ cs hl hR =>
          refine ⟨c.args.map ev ++ cs, ?_, fun w => ?_⟩
          · rw [Array.toList_append]
            exact LRel.append (LRel.ops fun x hx' => hx x (by simp only [hop, Op.operands, Call.operands, hc]; simp; exact .inr (by simpa using hx'))) ⟨by simpa using hl, fun j v u hv hu => hR j v u hv (by simpa using hu)⟩
          · simp only [execOp, hop, resolve, hc, hcv, Deferred.ofValue, Sem.run_bind, Sem.run_pure, Result.andThen_ok, invoke, Array.empty_append]
      · cases h
    · cases h
  · cases h
theorem Does.call {call : XCl} (hcall : zcu P call) {o : Oper} {e : Operand → AV} {f : Nat} {args : List AV} (h : xcal o e = some (f, args)) {H : HB} {nx : Nat} {v : AV} {H' : HB} {nx' : Nat} (hc : call f args H nx = some (v, H', nx')) (ev : Operand → Value) :
    Does P H nx v H' nx' (fun K ρ A => ∀ x ∈ o.op.operands.toList, VRel K ρ A (e x) (ev x)) fun w => (execOp ev o).run P w := by
  have d := hcall f args H nx v H' nx' hc
  refine ⟨(d #[]).le, (d #[]).dom, fun A ρ Hm w hB s hx hag hfree => ?_⟩
  obtain ⟨cargs, h1, h2⟩ := ztl (P := P) h ev hx
  simp only [h2]
  exact (d cargs).run A ρ Hm w hB s h1 hag hfree
include hT hE in
theorem zvc {β : Type} {call : XCl} (hcall : zcu P call) {o : Oper} {E : EB} {H : HB} {nx : Nat} {c : AV → HB → Nat → Option β} {r : β} (h : zjx T eqs call o E H nx c = some r) :
    ∃ v H' nx', c v H' nx' = some r ∧ ∀ ev, Does P H nx v H' nx' (fun K ρ A => ∀ x ∈ o.op.operands.toList, VRel K ρ A ((toE E).ev x) (ev x)) fun w => (execOp ev o).run P w := by
  unfold zjx at h
  split at h
  · split at h
    · rename_i f args hx
      split at h
      · rename_i v H' nx' hc
        exact ⟨v, H', nx', h, fun ev => Does.call hcall hx hc ev⟩
      · cases h
    · cases h
  · split at h
    · rename_i v rd fr D hx
      split at h
      · rename_i hck
        rw [zke, zha, zly] at h
        obtain ⟨h1, h2⟩ := zzc hT hE hx
        exact ⟨v, _, _, h, fun ev => Does.eff (fun A ρ H w ev _ s hx hr hf => h2 A ρ H w ev s hx hr hf) (zpb h1) hck ev⟩
      · cases h
    · cases h
end
end Go.Proofs.YtiinnjjmoifoeaaGreatDoor
set_option maxRecDepth 8000
namespace Go.Proofs.YtiinnjjmoifoeaaGreatDoor
open Go Go.RowKit
section
variable {P : Program} {T : Nat → Option AT} {eqs : Nat → Bool} (hT : TOk P T) (hE : EOk P T eqs)
variable {A0 : Nat → Prop} {ρ0 : Nat → Loc} {Hi : Heap} {w0 : World} {X : HB} {n0 nE N : Nat}
abbrev AX (A0 : Nat → Prop) (n0 nx : Nat) : Nat → Prop := fun g => A0 g ∨ n0 ≤ g ∧ g < nx
structure SX (A0 : Nat → Prop) (ρ0 : Nat → Loc) (Hi : Heap) (w0 : World) (X : HB) (n0 nE N : Nat) (E : EB) (H : HB) (nx : Nat) (a : Act) (w : World) : Prop where
  ex : ∃ ρ, Sim (AX A0 n0 nx) ρ (mix Hi X n0 nE H) w ∧ (∀ t, VRel (Kof ρ (mix Hi X n0 nE H) w) ρ (AX A0 n0 nx) (toE E t) (a.tmps.getD t undef)) ∧ Fr A0 ρ0 Hi w0 (AX A0 n0 nx) ρ (mix Hi X n0 nE H) w
  size : a.tmps.size = N
  defers : a.defers = []
  le : n0 ≤ nx
  dom : ∀ g, isH H g = true → Tk X n0 nx g
structure FX (A0 : Nat → Prop) (n0 nE : Nat) : Prop where
  free : ∀ g, n0 ≤ g → g < nE → ¬ A0 g
  bdd : Bdd A0
theorem Tk.mono {g m n : Nat} (h : Tk X n0 m g) (hm : m ≤ n) : Tk X n0 n g := h.imp id fun ⟨a, b⟩ => ⟨a, by omega⟩
theorem zyo {H H' : HB} {nx nx' : Nat} (h0 : n0 ≤ nx) (h1 : nx' ≤ nE) (hle : nx ≤ nx') (hd : ∀ g, isH H g = true → Tk X n0 nx g) (hd' : ∀ g, isH H' g = true → isH H g = true ∨ nx ≤ g ∧ g < nx') :
    mix (mix Hi X n0 nE H) H nx nx' H' = mix Hi X n0 nE H' := by
  funext g
  by_cases ht : Tk H nx nx' g
  · rw [zbe ht, zbe]
    rcases ht with h | h
    · exact (hd g h).mono (by omega)
    · exact .inr ⟨by omega, by omega⟩
  · rw [zch ht]
    by_cases hk : Tk X n0 nE g
    · rw [zbe hk, zbe hk]
      rw [zdy fun h => ht (.inl h), zdy fun h => ht (hd' g h)]
    · rw [zch hk, zch hk]
theorem zxz {nx nx' : Nat} (h0 : n0 ≤ nx) (hle : nx ≤ nx') : (fun g => AX A0 n0 nx g ∨ nx ≤ g ∧ g < nx') = AX A0 n0 nx' := by
  funext g
  simp only [AX, eq_iff_iff]
  constructor
  · rintro ((h | h) | h)
    · exact .inl h
    · exact .inr ⟨h.1, by omega⟩
    · exact .inr ⟨by omega, h.2⟩
  · rintro (h | h)
    · exact .inl (.inl h)
    · rcases Nat.lt_or_ge g nx with h' | h'
      · exact .inl (.inr ⟨h.1, h'⟩)
      · exact .inr ⟨h', h.2⟩
theorem FX.bddX (fx : FX A0 n0 nE) {nx : Nat} : Bdd (AX A0 n0 nx) := by
  obtain ⟨M, hM⟩ := fx.bdd
  exact ⟨max M nx, fun g hg => by rcases hg with h | h
                                  · have := hM g h; omega
                                  · omega⟩
theorem zqq {K : zf} {ρ : Nat → Loc} {A : Nat → Prop} {e : Env} {a : Act} (h : ∀ t, VRel K ρ A (e t) (a.tmps.getD t undef)) (x : Operand) : VRel K ρ A (e.ev x) (a.eval x) := by
  cases x with
  | tmp t => exact h t
  | const v => exact zhr _ _ _ v
  | global g => exact .junk _
  | func f => exact .clo f [] #[] rfl fun j v c hv => by simp at hv
theorem SX.next (fx : FX A0 n0 nE) {E : EB} {H : HB} {nx : Nat} {a : Act} {w : World} (st : SX A0 ρ0 Hi w0 X n0 nE N E H nx a w) {v : AV} {H' : HB} {nx' : Nat} {pre : zf → (Nat → Loc) → (Nat → Prop) → Prop} {run : World → Result Next}
    (d : Does P H nx v H' nx' pre run) (hn : nx' ≤ nE) (hp : ∀ K ρ A, (∀ t, VRel K ρ A (toE E t) (a.tmps.getD t undef)) → pre K ρ A) {dd : Option Nat} (hd : ∀ t, dd = some t → t < N) :
    zh P (fun cv w' => SX A0 ρ0 Hi w0 X n0 nE N (zkb E dd v) H' nx' (a.put dd cv) w') (run w) := by
  obtain ⟨ρ, s, hv, f⟩ := st.ex
  have hle := d.le
  refine zm (d.run _ ρ _ w fx.bddX s (hp _ _ _ hv) (fun g hg => zbe ((st.dom g hg).mono (by omega))) fun g h1 h2 h3 => ?_) fun cv w' ⟨ρ', q1, q2, q3⟩ => ?_
  · rcases h3 with h | h
    · exact fx.free g (by have := st.le; omega) (by omega) h
    · omega
  · rw [zyo st.le hn hle st.dom d.dom, zxz st.le hle] at q1 q2 q3
    refine ⟨⟨ρ', q1, fun t => ?_, f.trans q3⟩, ?_, ?_, by have := st.le; omega, fun g hg => ?_⟩
    · rw [zcf, zbu, zge a dd t cv (by rw [st.size]; exact hd)]
      split
      · exact q2
      · exact (hv t).fr q3
    · cases dd <;> simp [Act.put, st.size]
    · cases dd <;> simp [Act.put, st.defers]
    · rcases d.dom g hg with h | h
      · exact (st.dom g h).mono hle
      · exact .inr ⟨by have := st.le; omega, h.2⟩
theorem SX.skip {E : EB} {H : HB} {nx : Nat} {a : Act} {w : World} (st : SX A0 ρ0 Hi w0 X n0 nE N E H nx a w) {dd : Option Nat} (hd : ∀ t, dd = some t → t < N) : SX A0 ρ0 Hi w0 X n0 nE N (zkb E dd .und) H nx (a.put dd undef) w := by
  obtain ⟨ρ, s, hv, f⟩ := st.ex
  refine ⟨⟨ρ, s, fun t => ?_, f⟩, ?_, ?_, st.le, st.dom⟩
  · rw [zcf, zbu, zge a dd t undef (by rw [st.size]; exact hd)]
    split
    · exact .und
    · exact hv t
  · cases dd <;> simp [Act.put, st.size]
  · cases dd <;> simp [Act.put, st.defers]
def zaf (H : HB) (nx : Nat) (H' : HB) (nx' : Nat) : Prop := nx ≤ nx' ∧ ∀ g, isH H' g = true → isH H g = true ∨ nx ≤ g ∧ g < nx'
theorem zaf.refl (H : HB) (nx : Nat) : zaf H nx H nx := ⟨Nat.le_refl _, fun _ h => .inl h⟩
theorem zaf.trans {H H' H'' : HB} {nx nx' nx'' : Nat} (h : zaf H nx H' nx') (k : zaf H' nx' H'' nx'') : zaf H nx H'' nx'' :=
  ⟨Nat.le_trans h.1 k.1, fun g hg => by
    have h1 := h.1
    have k1 := k.1
    rcases k.2 g hg with e | e
    · rcases h.2 g e with e | e
      · exact .inl e
      · exact .inr ⟨e.1, by omega⟩
    · exact .inr ⟨by omega, e.2⟩⟩
include hT hE in
theorem zmg {β : Type} {call : XCl} (hcall : zcu P call) (fx : FX A0 n0 nE) {all : Array Oper} : ∀ (rest : List Oper) (kn : zae) (E : EB) (H : HB) (nx : Nat) (c : EB → HB → Nat → Option β) (r : β), xops T eqs call all.toList rest kn E H nx c = some r → zei N rest = true → (∀ t, (∃ o ∈ all.toList, o.dst = some t) → t < N) → KnOk kn (toE E) →
    ∃ E' H' nx', c E' H' nx' = some r ∧ zaf H nx H' nx' ∧ (nx' ≤ nE → ∀ a w, SX A0 ρ0 Hi w0 X n0 nE N E H nx a w → wpList P all (fun e a w => e = .normal ∧ SX A0 ρ0 Hi w0 X n0 nE N E' H' nx' a w) rest a w)
  | [], kn, E, H, nx, c, r, h, _, _, _ => ⟨E, H, nx, h, zaf.refl H nx, fun _ a w st => wpList_nil ⟨rfl, st⟩⟩
  | o :: rest, kn, E, H, nx, c, r, h, hd, hall, hkn => by
    simp only [zei, Bool.and_eq_true] at hd
    have hdo : ∀ t, o.dst = some t → t < N := fun t ht => by have := hd.1; rw [ht] at this; simpa using this
    have run : ∀ kn1, KnOk kn1 (toE E) → zjx T eqs call o E H nx (fun v H nx => putE E o.dst v fun E => xops T eqs call all.toList rest (zax o.dst kn1) E H nx c) = some r → (∀ (ρ : Nat → Loc) (Hm : Heap) (w : World) (A : Nat → Prop) (a : Act), a.tmps.size = N → (∀ t, VRel (Kof ρ Hm w) ρ A (toE E t) (a.tmps.getD t undef)) → Region.wanted o (yielded all a.tmps) = true) →
        ∃ E' H' nx', c E' H' nx' = some r ∧ zaf H nx H' nx' ∧ (nx' ≤ nE → ∀ a w, SX A0 ρ0 Hi w0 X n0 nE N E H nx a w → wpList P all (fun e a w => e = .normal ∧ SX A0 ρ0 Hi w0 X n0 nE N E' H' nx' a w) (o :: rest) a w) := by
      intro kn1 hk1 hs hw
      obtain ⟨v, H1, nx1, h1, hd1⟩ := zvc hT hE hcall hs
      rw [zka] at h1
      obtain ⟨E', H', nx', h2, h3, h4⟩ := zmg hcall fx rest _ _ _ _ c r h1 hd.2 hall (by rw [zcf]; exact hk1.drop o.dst v)
      have hd0 := hd1 fun _ => undef
      refine ⟨E', H', nx', h2, zaf.trans ⟨hd0.le, hd0.dom⟩ h3, fun hn a w st => ?_⟩
      refine wpList_step fun K hK => ?_
      obtain ⟨ρ, s, hv, f⟩ := st.ex
      rw [if_pos (hw ρ _ w _ a st.size hv)]
      exact zex (st.next fx (hd1 a.eval) (by have := h3.1; omega) (fun K ρ A hv x _ => zqq hv x) hdo) fun cv w' q => hK _ _ (h4 hn _ _ q)
    have skip : ∀ kn1, KnOk kn1 (toE E) → putE E o.dst .und (fun E => xops T eqs call all.toList rest (zbc o.dst kn1) E H nx c) = some r → (∀ (ρ : Nat → Loc) (Hm : Heap) (w : World) (A : Nat → Prop) (a : Act), a.tmps.size = N → (∀ t, VRel (Kof ρ Hm w) ρ A (toE E t) (a.tmps.getD t undef)) → Region.wanted o (yielded all a.tmps) = false) →
        ∃ E' H' nx', c E' H' nx' = some r ∧ zaf H nx H' nx' ∧ (nx' ≤ nE → ∀ a w, SX A0 ρ0 Hi w0 X n0 nE N E H nx a w → wpList P all (fun e a w => e = .normal ∧ SX A0 ρ0 Hi w0 X n0 nE N E' H' nx' a w) (o :: rest) a w) := by
      intro kn1 hk1 hs hw
      rw [zka] at hs
      obtain ⟨E', H', nx', h2, h3, h4⟩ := zmg hcall fx rest _ _ _ _ c r hs hd.2 hall (by rw [zcf]; exact hk1.skip o.dst)
      refine ⟨E', H', nx', h2, h3, fun hn a w st => ?_⟩
      refine wpList_step fun K hK => ?_
      obtain ⟨ρ, s, hv, f⟩ := st.ex
      rw [if_neg (by rw [hw ρ _ w _ a st.size hv]; simp)]
      exact hK _ _ (h4 hn _ _ (st.skip hdo))
    simp only [xops] at h
    split at h
    · rename_i hg
      exact run kn hkn h fun _ _ _ _ a _ _ => by simp [Region.wanted, hg]
    · rename_i j want hg
      split at h
      · cases h
      · rename_i t ht
        have htN : t < N := by
          obtain ⟨o', ho', hdst⟩ := Option.bind_eq_some_iff.1 ht
          exact hall t ⟨o', List.mem_of_getElem? ho', hdst⟩
        have hwant : ∀ (a : Act), a.tmps.size = N → Region.wanted o (yielded all a.tmps) = (match a.tmps.getD t undef with | .bool b => b == want | _ => false) := by
          intro a hsz
          have hy := zhi ht a
          have hget : a.tmps[t]? = some (a.tmps.getD t undef) := by simp [Array.getD, hsz, htN]
          rw [hget] at hy
          have : Region.wanted o (yielded all a.tmps) = (yielded all a.tmps j == some want) := by simp [Region.wanted, hg]
          rw [this, hy]
          cases a.tmps.getD t undef <;> rfl
        have hbool : ∀ b, toE E t = .bool b → ∀ (ρ : Nat → Loc) (Hm : Heap) (w : World) (A : Nat → Prop) (a : Act), a.tmps.size = N → (∀ t, VRel (Kof ρ Hm w) ρ A (toE E t) (a.tmps.getD t undef)) → Region.wanted o (yielded all a.tmps) = (b == want) := by
          intro b hb ρ Hm w A a hsz hv
          have := hv t
          rw [hb] at this
          rw [hwant a hsz]
          generalize a.tmps.getD t undef = tv at this
          cases this
          rfl
        split at h
        · rename_i hk
          have hu := hkn t none (zbf hk)
          simp only at hu
          refine skip kn hkn h fun ρ Hm w A a hsz hv => ?_
          have := hv t
          rw [hu] at this
          rw [hwant a hsz]
          generalize a.tmps.getD t undef = tv at this
          cases this
          rfl
        · rename_i b hk
          have hb := hkn t (some b) (zbf hk)
          simp only at hb
          split at h
          · rename_i hbw
            exact run kn hkn h fun ρ Hm w A a hsz hv => by rw [hbool b hb ρ Hm w A a hsz hv, hbw]
          · rename_i hbw
            exact skip kn hkn h fun ρ Hm w A a hsz hv => by rw [hbool b hb ρ Hm w A a hsz hv, hbw]
        · split at h
          · rename_i b hb
            have hk2 : KnOk ((t, some b) :: kn) (toE E) := by
              have := hkn.know hb
              rwa [zfq hb] at this
            split at h
            · rename_i hbw
              exact run _ hk2 h fun ρ Hm w A a hsz hv => by rw [hbool b hb ρ Hm w A a hsz hv, hbw]
            · rename_i hbw
              exact skip _ hk2 h fun ρ Hm w A a hsz hv => by rw [hbool b hb ρ Hm w A a hsz hv, hbw]
          · cases h
end
end Go.Proofs.YtiinnjjmoifoeaaGreatDoor
