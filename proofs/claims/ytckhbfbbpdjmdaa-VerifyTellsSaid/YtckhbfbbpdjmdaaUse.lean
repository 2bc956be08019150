/- How what is to be shown is taken apart. -/
import Derived.Test.YtckhbfbbpdjmdaaGc
import Derived.IntWalk
namespace Go.Proofs.Ytckhbfbbpdjmdaa
open Go Go.RowKit

theorem JN.same {J : J3} {B : J3 → Prop} (h : B J) : JN J B := ⟨J, fun _ _ _ h => h, h⟩
theorem JN.cut {J : J3} {B : J3 → Prop} (I : J3) (h1 : ∀ xs H nx, I xs H nx → J xs H nx) (h2 : B I) : JN J B := ⟨I, h1, h2⟩
theorem LP.mk {F : J3 → J3} {xs : List AV} {H : Heap} {nx : Nat} (I : Nat → J3) (n : Nat) (h0 : I n xs H nx) (hs : ∀ n xs H nx, I n xs H nx → F (fun xs H nx => ∃ m, m < n ∧ I m xs H nx) xs H nx) : LP F xs H nx := ⟨I, n, h0, hs⟩

@[simp] theorem nth_0 (x : AV) (xs : List AV) : nth (x :: xs) 0 = x := rfl
@[simp] theorem nth_1 (x y : AV) (xs : List AV) : nth (x :: y :: xs) 1 = y := rfl
@[simp] theorem nth_2 (x y z : AV) (xs : List AV) : nth (x :: y :: z :: xs) 2 = z := rfl
@[simp] theorem nth_3 (x y z a : AV) (xs : List AV) : nth (x :: y :: z :: a :: xs) 3 = a := rfl
@[simp] theorem nth_4 (x y z a b : AV) (xs : List AV) : nth (x :: y :: z :: a :: b :: xs) 4 = b := rfl
@[simp] theorem nth_5 (x y z a b c : AV) (xs : List AV) : nth (x :: y :: z :: a :: b :: c :: xs) 5 = c := rfl
@[simp] theorem nth_6 (x y z a b c d : AV) (xs : List AV) : nth (x :: y :: z :: a :: b :: c :: d :: xs) 6 = d := rfl
@[simp] theorem nth_7 (x y z a b c d e : AV) (xs : List AV) : nth (x :: y :: z :: a :: b :: c :: d :: e :: xs) 7 = e := rfl
@[simp] theorem nth_8 (x y z a b c d e f : AV) (xs : List AV) : nth (x :: y :: z :: a :: b :: c :: d :: e :: f :: xs) 8 = f := rfl
@[simp] theorem nth_9 (x y z a b c d e f g : AV) (xs : List AV) : nth (x :: y :: z :: a :: b :: c :: d :: e :: f :: g :: xs) 9 = g := rfl

/-- What is to be had first, and then more: what is behind is looked at later. -/
def OPTK {α : Type} (o : Option α) (k : α → Prop) : Prop := ∃ v, o = some v ∧ k v
@[simp ↓] theorem optk {α : Type} {v : α} {k : α → Prop} : OPTK (some v) k = k v := by simp [OPTK]
@[simp ↓] theorem optk_none {α : Type} {k : α → Prop} : OPTK none k = False := by simp [OPTK]
@[congr] theorem optk_c {α : Type} {o o' : Option α} {k : α → Prop} (h : o = o') : OPTK o k = OPTK o' k := by rw [h]
def ROWK (o : Option AObj) (k : Nat → List AV → Prop) : Prop := ∃ s cs, o = some (.row s cs) ∧ k s cs
@[simp ↓] theorem rowk {s : Nat} {cs : List AV} {k : Nat → List AV → Prop} : ROWK (some (.row s cs)) k = k s cs := by
  apply propext; constructor
  · rintro ⟨s', cs', h, hk⟩; cases h; exact hk
  · exact fun h => ⟨s, cs, rfl, h⟩
@[congr] theorem rowk_c {o o' : Option AObj} {k : Nat → List AV → Prop} (h : o = o') : ROWK o k = ROWK o' k := by rw [h]
def MAPK (o : Option AObj) (k : List (AV × AV) → Prop) : Prop := ∃ es, o = some (.mp es) ∧ k es
@[simp ↓] theorem mapk {es : List (AV × AV)} {k : List (AV × AV) → Prop} : MAPK (some (.mp es)) k = k es := by
  apply propext; constructor
  · rintro ⟨es', h, hk⟩; cases h; exact hk
  · exact fun h => ⟨es, rfl, h⟩
@[congr] theorem mapk_c {o o' : Option AObj} {k : List (AV × AV) → Prop} (h : o = o') : MAPK o k = MAPK o' k := by rw [h]

section
variable {x x' y y' z z' : AV} {k : AV → Prop} {H H' : Heap} {nx nx' : Nat}
@[congr] theorem pk_c (h : x = x') (h2 : y = y') (h3 : z = z') : PK x y z k = PK x' y' z' k := by rw [h, h2, h3]
@[congr] theorem bi_c {op : BinOp} (h : x = x') (h2 : y = y') : BI op x y k = BI op x' y' k := by rw [h, h2]
@[congr] theorem bs_c {op : BinOp} (h : x = x') (h2 : y = y') : BS op x y k = BS op x' y' k := by rw [h, h2]
@[congr] theorem bb_c {op : BinOp} (h : x = x') (h2 : y = y') : BB op x y k = BB op x' y' k := by rw [h, h2]
@[congr] theorem ba_c {s : Nat} {op : BinOp} (h : x = x') (h2 : y = y') : BA s op x y k = BA s op x' y' k := by rw [h, h2]
@[congr] theorem bp_c {op : BinOp} (h : x = x') (h2 : y = y') : BP op x y k = BP op x' y' k := by rw [h, h2]
@[congr] theorem uo_c {op : UnOp} (h : x = x') : UO op x k = UO op x' k := by rw [h]
@[congr] theorem cv_c {ki : IntKind} (h : x = x') : CV ki x k = CV ki x' k := by rw [h]
@[congr] theorem ld_c {g : Bool} {s : Nat} (h : x = x') (h2 : H = H') : LD g s x H k = LD g s x' H' k := by rw [h, h2]
@[congr] theorem ldr_c {g : Bool} {s : Nat} {kr : AV → List Nat → Prop} (h : x = x') (h2 : H = H') : LDR g s x H kr = LDR g s x' H' kr := by rw [h, h2]
@[congr] theorem st_c {s : Nat} {kh : Heap → Prop} (h : x = x') (h3 : y = y') (h2 : H = H') : ST s x y H kh = ST s x' y' H' kh := by rw [h, h2, h3]
@[congr] theorem store_c {s : Nat} {kt : Kt} (h : x = x') (h3 : y = y') (h2 : H = H') : STORE s x y H kt = STORE s x' y' H' kt := by rw [h, h2, h3]
@[congr] theorem nc_c (h : x = x') : NC x k = NC x' k := by rw [h]
@[congr] theorem fa_c {o : Nat} (h : x = x') : FA o x k = FA o x' k := by rw [h]
@[congr] theorem fi_c {g : Bool} {s o : Nat} (h : x = x') : FI g s o x k = FI g s o x' k := by rw [h]
@[congr] theorem ia_c {s : Nat} (h : x = x') (h2 : y = y') : IA s x y k = IA s x' y' k := by rw [h, h2]
@[congr] theorem aa_c {s l : Nat} (h : x = x') (h2 : y = y') : AA s l x y k = AA s l x' y' k := by rw [h, h2]
@[congr] theorem ix_c (h : x = x') (h2 : y = y') : IX x y k = IX x' y' k := by rw [h, h2]
@[congr] theorem ai_c {g : Bool} {s l : Nat} (h : x = x') (h2 : y = y') : AI g s l x y k = AI g s l x' y' k := by rw [h, h2]
@[congr] theorem lns_c (h : x = x') : LNS x k = LNS x' k := by rw [h]
@[congr] theorem lnl_c (h : x = x') : LNL x k = LNL x' k := by rw [h]
@[congr] theorem lnm_c (h : x = x') (h2 : H = H') : LNM x H k = LNM x' H' k := by rw [h, h2]
@[congr] theorem ex_c {i : Nat} (h : x = x') : EX x i k = EX x' i k := by rw [h]
@[congr] theorem bd_c {pl : Nat → Option (Nat × Nat)} {zs : List AV} {ps ps' : List (Nat × AV)} (h : ps = ps') : BD pl zs ps k = BD pl zs ps' k := by rw [h]
@[congr] theorem bsl_c {l s : Nat} {zs : List AV} {ps ps' : List (Nat × AV)} {kc : List AV → Prop} (h : ps = ps') : BSL l s zs ps kc = BSL l s zs ps' kc := by rw [h]
@[congr] theorem mk_c {b : Nat} {kn : Nat → Prop} (h : x = x') (h2 : y = y') : MK b x y kn = MK b x' y' kn := by rw [h, h2]
@[congr] theorem sls_c {lo lo' hi hi' : Option AV} (h : x = x') (h2 : lo = lo') (h3 : hi = hi') : SLS x lo hi k = SLS x' lo' hi' k := by rw [h, h2, h3]
@[congr] theorem sl_c {s : Nat} {lo lo' hi hi' : Option AV} (h : x = x') (h2 : lo = lo') (h3 : hi = hi') (h4 : H = H') : SL s x lo hi H k = SL s x' lo' hi' H' k := by rw [h, h2, h3, h4]
@[congr] theorem slice_c {s : Nat} {lo lo' hi hi' : Option AV} {kt : Kt} (h : x = x') (h2 : lo = lo') (h3 : hi = hi') (h4 : H = H') : SLICE s x lo hi H kt = SLICE s x' lo' hi' H' kt := by rw [h, h2, h3, h4]
@[congr] theorem sl0_c {w w' : AV} (h : x = x') (h2 : y = y') (h3 : z = z') (h4 : w = w') : SL0 x y z w k = SL0 x' y' z' w' k := by rw [h, h2, h3, h4]
@[congr] theorem lk_c {zs : List AV} {g o : Bool} (h : x = x') (h2 : y = y') (h3 : H = H') : LK zs g x y o H k = LK zs g x' y' o H' k := by rw [h, h2, h3]
@[congr] theorem look_c {zs : List AV} {g o : Bool} {kt : Kt} (h : x = x') (h2 : y = y') (h3 : H = H') : LOOK zs g x y o H kt = LOOK zs g x' y' o H' kt := by rw [h, h2, h3]
@[congr] theorem mu_c {kh : Heap → Prop} (h : x = x') (h2 : y = y') (h3 : z = z') (h4 : H = H') : MU x y z H kh = MU x' y' z' H' kh := by rw [h, h2, h3, h4]
@[congr] theorem mupd_c {kt : Kt} (h : x = x') (h2 : y = y') (h3 : z = z') (h4 : H = H') : MUPD x y z H kt = MUPD x' y' z' H' kt := by rw [h, h2, h3, h4]
@[congr] theorem app_c {e b : Nat} {kk : AV → Heap → Nat → Prop} (h : x = x') (h2 : y = y') (h3 : H = H') (h4 : nx = nx') : APP e b x y H nx kk = APP e b x' y' H' nx' kk := by rw [h, h2, h3, h4]
@[congr] theorem append_c {e b : Nat} {kt : Kt} (h : x = x') (h2 : y = y') (h3 : H = H') (h4 : nx = nx') : APPEND e b x y H nx kt = APPEND e b x' y' H' nx' kt := by rw [h, h2, h3, h4]
@[congr] theorem cp_c {e : Nat} {kh : AV → Heap → Prop} (h : x = x') (h2 : y = y') (h3 : H = H') : CP e x y H kh = CP e x' y' H' kh := by rw [h, h2, h3]
@[congr] theorem copy_c {e : Nat} {kt : Kt} (h : x = x') (h2 : y = y') (h3 : H = H') : COPY e x y H kt = COPY e x' y' H' kt := by rw [h, h2, h3]
@[congr] theorem cnd_c {A B : Prop} (h : x = x') : CND x A B = CND x' A B := by rw [h]
@[congr] theorem call_c {P : Program} {as as' : List AV} {kk : AV → Heap → Nat → Prop} (h : x = x') (h2 : as = as') (h3 : H = H') (h4 : nx = nx') : CALL P x as H nx kk = CALL P x' as' H' nx' kk := by rw [h, h2, h3, h4]
@[congr] theorem calld_c {P : Program} {as as' : List AV} {kt : Kt} (h : x = x') (h2 : as = as') (h3 : H = H') (h4 : nx = nx') : CALLD P x as H nx kt = CALLD P x' as' H' nx' kt := by rw [h, h2, h3, h4]
@[congr] theorem acalls_c {P : Program} {f : FuncId} {as as' : List AV} {kk : AV → Heap → Nat → Prop} (h2 : as = as') (h3 : H = H') (h4 : nx = nx') : ACalls P f as H nx kk = ACalls P f as' H' nx' kk := by rw [h2, h3, h4]
@[congr] theorem jn_c {J : J3} {B : J3 → Prop} : JN J B = JN J B := rfl
@[congr] theorem lp_c {F : J3 → J3} {xs xs' : List AV} (h : xs = xs') (h3 : H = H') (h4 : nx = nx') : LP F xs H nx = LP F xs' H' nx' := by rw [h, h3, h4]
@[congr] theorem disjK_c {l l' m m' : List Nat} {A : Prop} (h : l = l') (h2 : m = m') : disjK l m A = disjK l' m' A := by rw [h, h2]
@[congr] theorem gd_c {b b' : Bool} {A : Prop} (h : b = b') : gd b A = gd b' A := by rw [h]
end
@[simp ↓] theorem cnd_t (A B : Prop) : CND (.bool true) A B = A := rfl
@[simp ↓] theorem cnd_f (A B : Prop) : CND (.bool false) A B = B := rfl
@[simp ↓ low] theorem cnd (b : Bool) (A B : Prop) : CND (.bool b) A B = ((b = true → A) ∧ (b = false → B)) := propext cnd_bool
@[simp ↓] theorem pk (b : Bool) (x y : AV) (k : AV → Prop) : PK (.bool b) x y k = k (bif b then x else y) := rfl

variable {ki : IntKind} {a b : Int} {k : AV → Prop}
@[simp ↓] theorem bi_add : BI .add (.int ki a) (.int ki b) k = k (.int ki (ki.wrap (a + b))) := by simp [BI, BINI, IBIN, shiftOp, PURE, qk]
@[simp ↓] theorem bi_sub : BI .sub (.int ki a) (.int ki b) k = k (.int ki (ki.wrap (a - b))) := by simp [BI, BINI, IBIN, shiftOp, PURE, qk]
@[simp ↓] theorem bi_mul : BI .mul (.int ki a) (.int ki b) k = k (.int ki (ki.wrap (a * b))) := by simp [BI, BINI, IBIN, shiftOp, PURE, qk]
@[simp ↓] theorem bi_quo : BI .quo (.int ki a) (.int ki b) k = (b ≠ 0 ∧ k (.int ki (ki.wrap (a.tdiv b)))) := by simp [BI, BINI, IBIN, shiftOp, PURE, qk]
@[simp ↓] theorem bi_rem : BI .rem (.int ki a) (.int ki b) k = (b ≠ 0 ∧ k (.int ki (a.tmod b))) := by simp [BI, BINI, IBIN, shiftOp, PURE, qk]
@[simp ↓] theorem bi_shl {kj : IntKind} : BI .shl (.int ki a) (.int kj b) k = (0 ≤ b ∧ k (.int ki (ki.wrap (a * 2 ^ (min b.toNat ki.bits))))) := by simp [BI, BINI, IBIN, shiftOp, PURE, qk]
@[simp ↓] theorem bi_shr {kj : IntKind} : BI .shr (.int ki a) (.int kj b) k = (0 ≤ b ∧ k (.int ki (a.fdiv (2 ^ (min b.toNat ki.bits))))) := by simp [BI, BINI, IBIN, shiftOp, PURE, qk]
@[simp ↓] theorem bi_eql : BI .eql (.int ki a) (.int ki b) k = k (.bool (decide (a = b))) := by simp [BI, BINI, IBIN, icmp, shiftOp, PURE, qk]; rfl
@[simp ↓] theorem bi_neq : BI .neq (.int ki a) (.int ki b) k = k (.bool (!decide (a = b))) := by simp [BI, BINI, IBIN, icmp, shiftOp, PURE, qk]; rfl
@[simp ↓] theorem bi_lss : BI .lss (.int ki a) (.int ki b) k = k (.bool (decide (a < b))) := by simp [BI, BINI, IBIN, icmp, shiftOp, PURE, qk]
@[simp ↓] theorem bi_leq : BI .leq (.int ki a) (.int ki b) k = k (.bool (decide (a ≤ b))) := by simp [BI, BINI, IBIN, icmp, shiftOp, PURE, qk]
@[simp ↓] theorem bi_gtr : BI .gtr (.int ki a) (.int ki b) k = k (.bool (decide (b < a))) := by simp [BI, BINI, IBIN, icmp, shiftOp, PURE, qk]
@[simp ↓] theorem bi_geq : BI .geq (.int ki a) (.int ki b) k = k (.bool (decide (b ≤ a))) := by simp [BI, BINI, IBIN, icmp, shiftOp, PURE, qk]
@[simp ↓] theorem bi_and : BI .and (.int ki a) (.int ki b) k = k (.int ki (ki.wrap (BitVec.ofInt ki.bits a &&& BitVec.ofInt ki.bits b).toNat)) := by simp [BI, BINI, IBIN, ibits, shiftOp, PURE, qk]
@[simp ↓] theorem bi_or : BI .or (.int ki a) (.int ki b) k = k (.int ki (ki.wrap (BitVec.ofInt ki.bits a ||| BitVec.ofInt ki.bits b).toNat)) := by simp [BI, BINI, IBIN, ibits, shiftOp, PURE, qk]
@[simp ↓] theorem bi_xor : BI .xor (.int ki a) (.int ki b) k = k (.int ki (ki.wrap (BitVec.ofInt ki.bits a ^^^ BitVec.ofInt ki.bits b).toNat)) := by simp [BI, BINI, IBIN, ibits, shiftOp, PURE, qk]
@[simp ↓] theorem cv (kj : IntKind) : CV kj (.int ki a) k = k (.int kj (kj.wrap a)) := rfl
@[simp ↓] theorem uo_not (c : Bool) : UO .not (.bool c) k = k (.bool (!c)) := rfl
@[simp ↓] theorem uo_neg : UO .neg (.int ki a) k = k (.int ki (ki.wrap (0 - a))) := rfl
@[simp ↓] theorem bs_eql (s t : List UInt8) : BS .eql (.str s) (.str t) k = k (.bool (decide (s = t))) := by
  have : (s == t) = decide (s = t) := by rw [Bool.eq_iff_iff]; simp
  rw [← this]; rfl
@[simp ↓] theorem bs_neq (s t : List UInt8) : BS .neq (.str s) (.str t) k = k (.bool (!decide (s = t))) := by
  have : (s == t) = decide (s = t) := by rw [Bool.eq_iff_iff]; simp
  rw [← this]; rfl
@[simp ↓] theorem bs_lss (s t : List UInt8) : BS .lss (.str s) (.str t) k = k (.bool (Op.bytesLess s t)) := rfl
@[simp ↓] theorem bs_add (s t : List UInt8) : BS .add (.str s) (.str t) k = (s.length + t.length ≤ 9223372036854775807 ∧ k (.str (s ++ t))) := rfl
@[simp ↓] theorem bb_eql (c d : Bool) : BB .eql (.bool c) (.bool d) k = k (.bool (c == d)) := by simp [BB, BINB, eqlOp, PURE, qk]
@[simp ↓] theorem bb_neq (c d : Bool) : BB .neq (.bool c) (.bool d) k = k (.bool (c != d)) := by simp [BB, BINB, eqlOp, PURE, qk]; rfl

@[simp ↓] theorem lns (s : List UInt8) : LNS (.str s) k = k (.int .i64 (s.length : Int)) := rfl
@[simp ↓] theorem lnl_ro (xs : List (List AV)) : LNL (.ro xs) k = k (.int .i64 (xs.length : Int)) := rfl
@[simp ↓] theorem lnl_slc (g off len : Nat) : LNL (.slc g off len) k = k (.int .i64 (len : Int)) := rfl
@[simp ↓] theorem lnl_nils : LNL .nils k = k (.int .i64 0) := rfl
@[simp ↓] theorem lnl_zs : LNL .zs k = k (.int .i64 0) := rfl
@[simp ↓] theorem ix_str (s : List UInt8) (n : Int) : IX (.str s) (.int ki n) k = (0 ≤ n ∧ n < s.length ∧ k (.int .u8 ((s.getD n.toNat 0).toNat : Int))) := rfl
@[simp ↓] theorem ia_ro (esz : Nat) (xs : List (List AV)) (n : Int) : IA esz (.ro xs) (.int ki n) k = (0 ≤ n ∧ n < xs.length ∧ (xs.getD n.toNat []).length = esz ∧ k (.rop (xs.getD n.toNat []) 0)) := rfl
@[simp ↓] theorem ia_slc (esz g off len : Nat) (n : Int) : IA esz (.slc g off len) (.int ki n) k = (0 ≤ n ∧ n < len ∧ k (.ptr g (off + n.toNat * esz))) := rfl
@[simp ↓] theorem fa_rop (o : Nat) (cs : List AV) (q : Nat) : FA o (.rop cs q) k = k (.rop cs (q + o)) := rfl
@[simp ↓] theorem fa_ptr (o g q : Nat) : FA o (.ptr g q) k = k (.ptr g (q + o)) := rfl
@[simp ↓] theorem nc_rop (cs : List AV) (q : Nat) : NC (.rop cs q) k = k (.rop cs q) := rfl
@[simp ↓] theorem nc_ptr (g q : Nat) : NC (.ptr g q) k = k (.ptr g q) := rfl
@[simp] theorem cells_int : (AV.int ki a).cells = [AV.int ki a] := rfl
@[simp] theorem cells_str (s : List UInt8) : (AV.str s).cells = [AV.str s] := rfl
@[simp] theorem cells_bool (c : Bool) : (AV.bool c).cells = [AV.bool c] := rfl
@[simp] theorem cells_agg (xs : List AV) : (AV.agg xs).cells = xs := rfl
@[simp] theorem cells_slc (g o n : Nat) : (AV.slc g o n).cells = [AV.slc g o n] := rfl
@[simp] theorem cells_ro (xs : List (List AV)) : (AV.ro xs).cells = [AV.ro xs] := rfl
@[simp] theorem sure_int : (AV.int ki a).sure = true := rfl
@[simp] theorem sure_str (s : List UInt8) : (AV.str s).sure = true := rfl
@[simp] theorem sure_bool (c : Bool) : (AV.bool c).sure = true := rfl
@[simp] theorem sure_agg (xs : List AV) : (AV.agg xs).sure = true := rfl
@[simp] theorem sure_slc (g o n : Nat) : (AV.slc g o n).sure = true := rfl
@[simp] theorem sure_ro (xs : List (List AV)) : (AV.ro xs).sure = true := rfl
@[simp] theorem one_int : (AV.int ki a).one = true := rfl
@[simp] theorem one_str (s : List UInt8) : (AV.str s).one = true := rfl
@[simp] theorem one_bool (c : Bool) : (AV.bool c).one = true := rfl
@[simp] theorem one_slc (g o n : Nat) : (AV.slc g o n).one = true := rfl
@[simp] theorem one_ro (xs : List (List AV)) : (AV.ro xs).one = true := rfl

@[simp ↓] theorem ex_tup (vs : List AV) (i : Nat) : EX (.tup vs) i k = OPTK vs[i]? k := by
  simp only [EX, EXTR, PURE, qk, OPTK]
  cases vs[i]? <;> simp

theorem i64w {n : Int} (h : -9223372036854775808 ≤ n ∧ n ≤ 9223372036854775807) : IntKind.i64.wrap n = n := IntWalk.i64_in n h
theorem frz_int {H : Heap} {nx : Nat} : Frz H nx (.int ki a) (.int ki a) := .same _ (.int _ _)
theorem frz_bool {H : Heap} {nx : Nat} {c : Bool} : Frz H nx (.bool c) (.bool c) := .same _ (.bool _)
theorem frz_str {H : Heap} {nx : Nat} {s : List UInt8} : Frz H nx (.str s) (.str s) := .same _ (.str _)
end Go.Proofs.Ytckhbfbbpdjmdaa
