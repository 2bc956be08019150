/- The operations in a region whose order is drawn: what each came to, what it read, what it changed. A region whose order is drawn: one walk in the text's order is enough, if what is not ordered does not touch the same. A region whose order is drawn, on: whatever order is drawn comes to what the walk says. The code, by abstract operations: what is to be shown of it, and that this is enough. A function's contract, from its code. -/
import Derived.Test.YtpllgpgdcbgalaaDoorG3
set_option linter.unusedSimpArgs false
set_option linter.unusedVariables false
set_option maxRecDepth 8000
namespace Go.Proofs.YtpllgpgdcbgalaaDoor
open Go Go.RowKit
def LDR (agg:Bool) (sz:Nat) (p:AV) (H:Heap) (k:AV→List Nat→Prop):Prop:=LOAD agg sz p H fun v rd _ _=>k v rd
section
variable {k:Kt}
theorem pk_k {c a b:AV}:PK c a b (fun v=>k v [] [] [])=PICK c a b k:=by unfold PK PICK PURE; rfl
theorem nc_k {x:AV}:NC x (fun v=>k v [] [] [])=NILC x k:=by unfold NC NILC PURE qk; rfl
theorem fa_k {o:Nat} {x:AV}:FA o x (fun v=>k v [] [] [])=zph o x k:=by unfold FA zph PURE qk; rfl
theorem fi_k {g:Bool} {s o:Nat} {x:AV}:FI g s o x (fun v=>k v [] [] [])=zfn g s o x k:=by unfold FI zfn PURE qk; rfl
theorem ia_k {s:Nat} {x i:AV}:IA s x i (fun v=>k v [] [] [])=zpf s x i k:=by unfold IA zpf PURE qk; rfl
theorem aa_k {s l:Nat} {x i:AV}:AA s l x i (fun v=>k v [] [] [])=zpj s l x i k:=by unfold AA zpj PURE qk; rfl
theorem ix_k {x i:AV}:IX x i (fun v=>k v [] [] [])=zpe x i k:=by unfold IX zpe PURE qk; rfl
theorem ai_k {g:Bool} {s l:Nat} {x i:AV}:AI g s l x i (fun v=>k v [] [] [])=zkm g s l x i k:=by unfold AI zkm zfn PURE qk; rfl
theorem zafd {x:AV}:LNS x (fun v=>k v [] [] [])=LENS x k:=by unfold LNS LENS PURE qk; rfl
theorem zafe {x:AV}:LNL x (fun v=>k v [] [] [])=LENL x k:=by unfold LNL LENL PURE qk; rfl
theorem ex_k {x:AV} {i:Nat}:EX x i (fun v=>k v [] [] [])=EXTR x i k:=by unfold EX EXTR PURE qk; rfl
theorem bd_k {pl:Nat→Option (Nat×Nat)} {z:List AV} {ps:List (Nat×AV)}:BD pl z ps (fun v=>k v [] [] [])=zhi pl z ps k:=by unfold BD zhi PURE qk; rfl
theorem bi_k {op:BinOp} {x y:AV}:BI op x y (fun v=>k v [] [] [])=BINI op x y k:=by unfold BI BINI IBIN PURE qk; rfl
theorem bs_k {op:BinOp} {x y:AV}:BS op x y (fun v=>k v [] [] [])=BINS op x y k:=by unfold BS BINS SBIN PURE qk; rfl
theorem bb_k {op:BinOp} {x y:AV}:BB op x y (fun v=>k v [] [] [])=BINB op x y k:=by unfold BB BINB PURE qk; rfl
theorem ba_k {s:List AV} {op:BinOp} {x y:AV}:BA s op x y (fun v=>k v [] [] [])=BINA s op x y k:=by unfold BA BINA PURE qk; rfl
theorem bp_k {op:BinOp} {x y:AV}:BP op x y (fun v=>k v [] [] [])=BINP op x y k:=by unfold BP BINP PURE qk; rfl
theorem bl_k {op:BinOp} {x y:AV}:BL op x y (fun v=>k v [] [] [])=BINL op x y k:=by unfold BL BINL PURE qk; rfl
theorem bf_k {op:BinOp} {x y:AV}:BF op x y (fun v=>k v [] [] [])=BINF op x y k:=by unfold BF BINF PURE qk; rfl
theorem uo_k {op:UnOp} {x:AV}:UO op x (fun v=>k v [] [] [])=UN op x k:=by unfold UO UN IBIN PURE qk; rfl
theorem cv_k {ki:IntKind} {x:AV}:CV ki x (fun v=>k v [] [] [])=zpi ki x k:=by unfold CV zpi PURE qk; rfl
theorem zaew {x:AV} {lo hi:Option AV}:SLS x lo hi (fun v=>k v [] [] [])=zgj x lo hi k:=by unfold SLS zgj PURE qk; rfl
theorem zaex {x lo hi mx:AV}:SL0 x lo hi mx (fun v=>k v [] [] [])=zmk x lo hi mx k:=by unfold SL0 zmk PURE qk; rfl
theorem mm_k {mn:Bool} {x y:AV}:MM mn x y (fun v=>k v [] [] [])=zcl mn x y k:=by unfold MM zcl PURE qk; rfl
theorem zafc {x y z:AV}:MX3 x y z (fun v=>k v [] [] [])=MAX3 x y z k:=by unfold MX3 MAX3 zcl PURE qk; rfl
theorem zafg {g:Bool} {s:Nat} {x:AV} {H:Heap}:LDR g s x H (fun v rd=>k v rd [] [])=LOAD g s x H k:=by unfold LDR LOAD; rfl
end
section
variable (T:Nat→Option AT) (eqs:Nat→Bool)
def dsop (e:Operand→AV) (H:Heap) (nx:Nat) (o:Oper) (k:Kt):Prop :=
  match o.op with
  | .move x | .assign x=>k (e x) [] [] []
  | .pick c a b=>PK (e c) (e a) (e b) fun v=>k v [] [] []
  | .alloc t=>match T t with | some a=>k (.ptr nx 0) [] [nx] [(nx,some (.row (zwj T a) a.zero))] | none=>False
  | .box _ v=>(e v).sure=true∧k (.ptr nx 0) [] [nx] [(nx,some (.row (e v).cells.length (e v).cells))]
  | .build t ps=>match T t with
    | some ⟨.struct fs,_,_,zero⟩=>gd (fs.all fun p=>zc T p.1 != 0) <| BD (zl T fs) zero (ps.toList.map fun p=>(p.1,e p.2)) fun v=>k v [] [] []
    | some ⟨.array _ el,_,_,zero⟩=>gd (zc T el != 0) <| BD (fun i=>some (i*zc T el,zc T el)) zero (ps.toList.map fun p=>(p.1,e p.2)) fun v=>k v [] [] []
    | _=>False
  | .buildSlice t len ps=>match T t with
    | some ⟨.slice el,_,_,_⟩=>match T el with
      | some a=>gd (Nat.ble (len*a.size) 16777216 && Nat.blt 0 a.size) <| BSL len a.size a.zero (ps.toList.map fun p=>(p.1,e p.2)) fun cells=>k (zv eqs t len nx) [] [nx] [(nx,some (.row a.size cells))]
      | none=>False
    | _=>False
  | .load t p=>match T t with | some a=>LDR a.kind.isAgg a.size (e p) H fun v rd=>k v rd [] [] | none=>False
  | .store t p v=>match T t with | some a=>zag a.size (e p) (e v) H k | none=>False
  | .nilCheck x=>NC (e x) fun v=>k v [] [] []
  | .binOp op t x y _=>match T t with
    | some ⟨.int _,_,_,_⟩=>BI op (e x) (e y) fun v=>k v [] [] []
    | some ⟨.str,_,_,_⟩=>BS op (e x) (e y) fun v=>k v [] [] []
    | some ⟨.bool,_,_,_⟩=>BB op (e x) (e y) fun v=>k v [] [] []
    | some ⟨.struct _,_,_,zs⟩=>gd (eqs t) <| BA zs op (e x) (e y) fun v=>k v [] [] []
    | some ⟨.array _ _,_,_,zs⟩=>gd (eqs t) <| BA zs op (e x) (e y) fun v=>k v [] [] []
    | some ⟨.ptr _,_,_,_⟩=>BP op (e x) (e y) fun v=>k v [] [] []
    | some ⟨.slice _,_,_,_⟩=>BL op (e x) (e y) fun v=>k v [] [] []
    | some ⟨.iface,_,_,_⟩=>match y with | .const _=>BF op (e x) (e y) fun v=>k v [] [] [] | _=>False
    | _=>False
  | .unOp op _ x=>UO op (e x) fun v=>k v [] [] []
  | .convert s d x=>match T s,T d with
    | some ⟨.int _,_,_,_⟩,some ⟨.int kd,_,_,_⟩=>CV kd (e x) fun v=>k v [] [] []
    | some ⟨.slice el,_,_,_⟩,some ⟨.str,_,_,_⟩=>match T el with
      | some ⟨.int .u8,_,_,_⟩=>zov (e x) H k
      | _=>False
    | some ⟨.str,_,_,_⟩,some ⟨.slice el,_,_,_⟩=>match T el with
      | some ⟨.int .u8,_,_,_⟩=>zrn (e x) nx k
      | _=>False
    | _,_=>False
  | .makeFunc fn first cap=>match fn,first.toList with
    | .func f,[]=>k (.clo f (cap.toList.map e)) [] [] []
    | _,_=>False
  | .makeMap _ r=>match r with
    | none=>k (.amap nx) [] [nx] [(nx,some (.mp []))]
    | some _=>False
  | .makeSlice t l c=>match T t with
    | some ⟨.slice el,_,_,_⟩=>match T el with
      | some a=>gd (Nat.blt 0 a.size) <| MK a.bytes (e l) (e c) fun n=>k (.slc nx 0 n) [] [nx] [(nx,some (.row a.size ((List.replicate n a.zero).flatten)))]
      | none=>False
    | _=>False
  | .slice t x lo hi mx=>match mx with
    | none=>match T t with
      | some ⟨.slice el,_,_,_⟩=>gd (zc T el != 0) <| zkz (zc T el) (e x) (lo.map e) (hi.map e) H k
      | some ⟨.str,_,_,_⟩=>SLS (e x) (lo.map e) (hi.map e) fun v=>k v [] [] []
      | some ⟨.ptr ar,_,_,_⟩=>match T ar with
        | some ⟨.array n el,_,_,_⟩=>gd (zc T el != 0) <| zou (zc T el) n (e x) (lo.map e) (hi.map e) H k
        | _=>False
      | _=>False
    | some mx=>match lo,hi with
      | some lo,some hi=>match T t with
        | some ⟨.slice el,_,_,_⟩=>gd (zc T el != 0) <| SL0 (e x) (e lo) (e hi) (e mx) fun v=>k v [] [] []
        | _=>False
      | _,_=>False
  | .fieldAddr t x f=>match T t with
    | some ⟨.struct fs,_,_,_⟩=>match zl T fs f with | some (off,sz)=>gd (sz != 0) <| FA off (e x) fun v=>k v [] [] [] | none=>False
    | _=>False
  | .field t x f=>match T t with
    | some ⟨.struct fs,_,_,_⟩=>match fs[f]? with
      | some (ft,off)=>match T ft with | some a=>FI a.kind.isAgg a.size off (e x) fun v=>k v [] [] [] | none=>False
      | none=>False
    | _=>False
  | .indexAddr t x i=>match T t with
    | some ⟨.slice el,_,_,_⟩=>gd (zc T el != 0) <| IA (zc T el) (e x) (e i) fun v=>k v [] [] []
    | some ⟨.array n el,_,_,_⟩=>gd (zc T el != 0) <| AA (zc T el) n (e x) (e i) fun v=>k v [] [] []
    | _=>False
  | .index t x i=>match T t with
    | some ⟨.str,_,_,_⟩=>IX (e x) (e i) fun v=>k v [] [] []
    | some ⟨.array n el,_,_,_⟩=>match T el with | some a=>AI a.kind.isAgg a.size n (e x) (e i) fun v=>k v [] [] [] | none=>False
    | _=>False
  | .lookup t m key ok=>match T t with
    | some ⟨.map kt el,_,_,_⟩=>match T el,T kt with | some a,some ka=>zn ka.kind (e key)=true∧LOOK a.zero a.kind.isAgg (e m) (e key) ok H k | _,_=>False
    | _=>False
  | .mapUpdate t m key v | .insert t m key v=>match T t with
    | some ⟨.map kt _,_,_,_⟩=>match T kt with | some ka=>zn ka.kind (e key)=true∧MUPD (e m) (e key) (e v) H k | none=>False
    | _=>False
  | .extract x i=>EX (e x) i fun v=>k v [] [] []
  | .call c=>match c.callee,c.args.toList,c.argTypes.toList with
    | .builtin .len,[x],[t]=>match T t with
      | some ⟨.str,_,_,_⟩=>LNS (e x) fun v=>k v [] [] []
      | some ⟨.slice _,_,_,_⟩=>LNL (e x) fun v=>k v [] [] []
      | some ⟨.map _ _,_,_,_⟩=>LENM (e x) H k
      | _=>False
    | .builtin .min,[x,y],[_,_]=>MM true (e x) (e y) fun v=>k v [] [] []
    | .builtin .max,[x,y],[_,_]=>MM false (e x) (e y) fun v=>k v [] [] []
    | .builtin .max,[x,y,z],[_,_,_]=>MX3 (e x) (e y) (e z) fun v=>k v [] [] []
    | .builtin .append,[s,x],[t,t2]=>match T t with
      | some ⟨.slice el,_,_,_⟩=>match T el with | some a=>gd (Nat.blt 0 a.size && Nat.blt 0 a.bytes && (zki T t2 || zmz T t2)) <| zad a.size a.bytes (e s) (srcV T t2 a.zero (e x)) H nx k | none=>False
      | _=>False
    | .builtin .copy,[d,x],[t,_]=>match T t with
      | some ⟨.slice el,_,_,_⟩=>match T el with | some a=>gd (Nat.blt 0 a.size) <| COPY a.size (e d) (e x) H k | none=>False
      | _=>False
    | _,_,_=>False
  | _=>False
theorem zabt {e:Operand→AV} {H:Heap} {nx:Nat} {o:Oper} {k:Kt} (h:dsop T eqs e H nx o k):aop T eqs e H nx o k:=by
  cases hop:o.op <;> simp only [dsop,hop] at h <;> simp only [aop,hop]
  all_goals try simp only [pk_k,nc_k,fa_k,fi_k,ia_k,aa_k,ix_k,ai_k,zafd,zafe,ex_k,bd_k,bi_k,bs_k,bb_k,ba_k,bp_k,bl_k,bf_k,uo_k,cv_k,zaew,zaex,zafg,mm_k,zafc] at h
  all_goals first | exact h | exact h.elim | skip
  all_goals
    repeat' split at h
    all_goals try simp only [ztv,bne_iff_ne,Bool.and_eq_true,Nat.blt_eq,Nat.ble_eq] at h
    all_goals try simp only [and_assoc] at h
  all_goals first | exact h.elim | (revert h; simp only [*]; intro h; exact h) | (revert h; simp only [*]; exact id) | skip
end
end Go.Proofs.YtpllgpgdcbgalaaDoor
set_option maxRecDepth 8000
namespace Go.Proofs.YtpllgpgdcbgalaaDoor
open Go Go.RowKit
structure Rec where
  v:AV
  rd:List Nat
  fr:List Nat
  D:zi
  skip:Bool
  env:Env
  H:Heap
  pt:Option AV
  cl:Bool
def ptOf (T:Nat→Option AT) (e:Operand→AV) (o:Oper):Option AV:=match o.op with
  | .load t p=>match T t with
    | some a=>match a.kind.isAgg with
      | false=>some (e p)
      | true=>none
    | none=>none
  | _=>none
def isCl (o:Oper):Bool:=match o.op with
  | .call c=>match c.callee with
    | .value _=>true
    | _=>false
  | _=>false
def zff (o:Option AObj) (q:Nat) (v:AV):Prop:=∃ s cs,o=some (.row s cs)∧cs[q]? = some v
def Bdd (A:Nat→Prop):Prop:=∃ N,∀ g,A g→g < N
def LC (P:Program) (f:FuncId) (args:List AV) (H0:Heap) (rd fr:List Nat) (D:zi) (v:AV):Prop :=
  ∀ (A:Nat→Prop) (ρ:Nat→Loc) (H:Heap) (w:World) (cargs:Array Value),Bdd A→Sim A ρ H w→LRel (Kof ρ H w) ρ A args cargs.toList→(∀ g∈rd,H g=H0 g)→(∀ g∈fr,¬ A g) →
    zy P (zfo A ρ H w v fr D) ((callFunc f cargs).run P w)
abbrev FrOk (nx:Nat) (fr:List Nat):Prop:=fr=[]∨fr=[nx]∨∀ g∈fr,nx≤g∧g < nx+fr.length
theorem FrOk.of {nx:Nat} {fr:List Nat} (h:fr=[]∨fr=[nx]):FrOk nx fr:=h.elim .inl fun h=>.inr (.inl h)
theorem FrOk.at {nx:Nat} {fr:List Nat} (h:FrOk nx fr):∀ g∈fr,nx≤g∧g < nx+fr.length:=by
  rcases h with rfl | rfl | h
  · intro g hg; cases hg
  · intro g hg; simp at hg; simp; omega
  · exact h
def zm (P:Program) (f:AV) (args:List AV) (H:Heap) (nx:Nat) (k:Kt):Prop:=match f with
  | .clo f cap=>∃ v rd fr D,FrOk nx fr∧LC P f (args ++ cap) H rd fr D v∧k v rd fr D
  | _=>False
def EffB (P:Program) (o:Oper) (e:Operand→AV) (H0:Heap) (rd fr:List Nat) (D:zi) (v:AV):Prop :=
  ∀ (A:Nat→Prop) (ρ:Nat→Loc) (H:Heap) (w:World) (ev:Operand→Value),Bdd A→Sim A ρ H w→(∀ x∈o.op.operands.toList,VRel (Kof ρ H w) ρ A (e x) (ev x)) →
    (∀ g∈rd,H g=H0 g)→(∀ g∈fr,¬ A g)→zy P (zfo A ρ H w v fr D) ((execOp ev o).run P w)
section
variable (P:Program) (T:Nat→Option AT) (eqs:Nat→Bool)
def zng (o:Oper) (env:Env) (H:Heap) (nx:Nat) (k:Kt):Prop :=
  match o.op with
  | .call c=>match c.callee with
    | .value f=>zm P (env.ev f) (c.args.toList.map env.ev) H nx k
    | _=>dsop T eqs env.ev H nx o k
  | _=>dsop T eqs env.ev H nx o k
def dops (all:List Oper):List Oper→zcg→Env→Heap→Nat→List Rec→(Env→Heap→Nat→List Rec→Prop)→Prop
  | [],_,env,H,nx,log,K=>K env H nx log
  | o :: r, kn,env,H,nx,log,K=>match o.guard with
    | none=>zng P T eqs o env H nx fun v rd fr D=>dops all r (zei o.dst kn) (env.putO o.dst v) (H.apply D) (nx+fr.length) (log ++ [⟨v,rd,fr,D,false,env,H,ptOf T env.ev o,isCl o⟩]) K
    | some (j,want)=>match gdst all j with
      | none=>False
      | some t=>match zqy t kn with
        | some none=>dops all r (zfk o.dst kn) (env.putO o.dst .und) H nx (log ++ [⟨.und,[],[],[],true,env,H,none,false⟩]) K
        | some (some b)=>bif b == want then zng P T eqs o env H nx fun v rd fr D=>dops all r (zei o.dst kn) (env.putO o.dst v) (H.apply D) (nx+fr.length) (log ++ [⟨v,rd,fr,D,false,env,H,ptOf T env.ev o,isCl o⟩]) K
          else dops all r (zfk o.dst kn) (env.putO o.dst .und) H nx (log ++ [⟨.und,[],[],[],true,env,H,none,false⟩]) K
        | none=>CND (env t)
          (bif want then zng P T eqs o (env.put t (.bool true)) H nx fun v rd fr D=>dops all r (zei o.dst ((t,some true) :: kn)) ((env.put t (.bool true)).putO o.dst v) (H.apply D) (nx+fr.length) (log ++ [⟨v,rd,fr,D,false,env.put t (.bool true),H,ptOf T (env.put t (.bool true)).ev o,isCl o⟩]) K
            else dops all r (zfk o.dst ((t,some true) :: kn)) ((env.put t (.bool true)).putO o.dst .und) H nx (log ++ [⟨.und,[],[],[],true,env.put t (.bool true),H,none,false⟩]) K)
          (bif want then dops all r (zfk o.dst ((t,some false) :: kn)) ((env.put t (.bool false)).putO o.dst .und) H nx (log ++ [⟨.und,[],[],[],true,env.put t (.bool false),H,none,false⟩]) K
            else zng P T eqs o (env.put t (.bool false)) H nx fun v rd fr D=>dops all r (zei o.dst ((t,some false) :: kn)) ((env.put t (.bool false)).putO o.dst v) (H.apply D) (nx+fr.length) (log ++ [⟨v,rd,fr,D,false,env.put t (.bool false),H,ptOf T (env.put t (.bool false)).ev o,isCl o⟩]) K)
end
def zcw (ops:Array Oper):Nat→Nat→Nat→Bool
  | 0,_,_=>false
  | f+1,i,j=>(zbd ops j).any fun p=>Nat.beq p i || zcw ops f i p
def ancM (l:List Nat):List Nat→Nat→Nat
  | [],m=>m
  | p :: r,m=>ancM l r (Nat.lor (Nat.lor m (Nat.shiftLeft 1 p)) (l.getD p 0))
def ancL (ops:Array Oper):Nat→List Nat
  | 0=>[]
  | n+1=>ancL ops n ++ [ancM (ancL ops n) (zbd ops n) 0]
def befB (l:List Nat) (i j:Nat):Bool:=Nat.beq (Nat.land (Nat.shiftRight (l.getD j 0) i) 1) 1
theorem zuo {l:List Nat} {i:Nat}:∀ (ps:List Nat) (m:Nat),(ancM l ps m).testBit i=true→m.testBit i=true∨∃ p∈ps,p=i∨(l.getD p 0).testBit i=true
  | [],m,h=>.inl h
  | p :: r,m,h=>by
    rcases zuo r _ h with h | ⟨q,hq,h⟩
    · have e:Nat.lor (Nat.lor m (Nat.shiftLeft 1 p)) (l.getD p 0)=(m ||| 1 <<< p) ||| l.getD p 0:=rfl
      rw [e,Nat.testBit_or,Nat.testBit_or,Bool.or_eq_true,Bool.or_eq_true] at h
      rcases h with (h | h) | h
      · exact .inl h
      · refine .inr ⟨p,by simp,.inl ?_⟩
        rw [Nat.one_shiftLeft,Nat.testBit_two_pow] at h
        simpa using h
      · exact .inr ⟨p,by simp,.inr h⟩
    · exact .inr ⟨q,by simp [hq],h⟩
theorem zfi (ops:Array Oper):∀ n,(ancL ops n).length=n
  | 0=>rfl
  | n+1=>by simp [ancL,zfi ops n]
theorem zlk {ops:Array Oper} {i:Nat}:∀ (n j:Nat),((ancL ops n).getD j 0).testBit i=true→∃ f,zcw ops f i j=true
  | 0,j,h=>by simp [ancL] at h
  | n + 1, j,h=>by
    by_cases hj:j < n
    · refine zlk n j ?_
      rw [← h]
      simp only [ancL,List.getD_eq_getElem?_getD]
      rw [List.getElem?_append_left (by rw [zfi]; exact hj)]
    · by_cases hjn:j=n
      · subst hjn
        have e:(ancL ops (j+1)).getD j 0=ancM (ancL ops j) (zbd ops j) 0:=by
          simp only [ancL,List.getD_eq_getElem?_getD]
          rw [List.getElem?_append_right (by rw [zfi]; exact Nat.le_refl _),zfi]
          simp
        rw [e] at h
        rcases zuo _ _ h with h | ⟨p,hp,rfl | h⟩
        · simp at h
        · exact ⟨1,by simp only [zcw,List.any_eq_true]; exact ⟨p,hp,by simp⟩⟩
        · obtain ⟨f,hf⟩:=zlk j p h
          exact ⟨f+1,by simp only [zcw,List.any_eq_true]; exact ⟨p,hp,by simp [hf]⟩⟩
      · have e:(ancL ops (n+1)).getD j 0=0:=by
          rw [List.getD_eq_getElem?_getD,List.getElem?_eq_none (by rw [zfi]; omega)]; rfl
        rw [e] at h
        simp at h
theorem zfh {ops:Array Oper} {i j n:Nat} (h:befB (ancL ops n) i j=true):∃ f,zcw ops f i j=true:=by
  refine zlk n j ?_
  have h1:=Nat.eq_of_beq_eq_true h
  have e:Nat.land (Nat.shiftRight ((ancL ops n).getD j 0) i) 1=((ancL ops n).getD j 0 >>> i) &&& 1:=rfl
  rw [e,Nat.and_comm] at h1
  simp only [Nat.testBit,h1]
  rfl
def zwb (ops:Array Oper) (l:List Nat):List (Nat×Nat) :=
  (List.range ops.size).flatMap fun j=>(List.range j).filterMap fun i =>
    match ops[i]?, ops[j]? with
    | some a,some b=>if (noW a && noW b) || befB l i j then none else some (i,j)
    | _,_=>none
def zrg (ops:Array Oper):List (Nat×Nat):=zwb ops (ancL ops ops.size)
def disj:List Nat→List Nat→Prop
  | [],_=>True
  | [g],l=>g∉l
  | g :: r,l=>g∉l∧disj r l
def domD (D:zi):List Nat:=D.map (·.1)
def zmi (g q:Nat) (v:AV) (D:zi):Prop:=∀ p∈D,p.1=g→zff p.2 q v
def zqu (a b:Rec):Prop:=match b.cl,a.pt with
  | true,some (.ptr g q)=>zmi g q a.v b.D
  | _,_=>disj (domD b.D) a.rd
def zmc (L:List Rec) (p:Nat×Nat):Prop:=match L[p.1]?, L[p.2]? with
  | some a,some b=>disj (domD a.D) (b.rd ++ domD b.D)∧zqu a b
  | _,_=>False
def zfm (L:List Rec):List (Nat×Nat)→Prop
  | []=>True
  | [p]=>zmc L p
  | p :: r=>zmc L p∧zfm L r
def zb:List Nat→List Nat→Prop→Prop
  | [],_,A=>A
  | g :: r,l,A=>g∉l∧zb r l A
def zej (g q:Nat) (v:AV):zi→Prop→Prop
  | [],A=>A
  | p :: r,A=>(p.1=g→zff p.2 q v)∧zej g q v r A
def SOFT (p v:AV) (D:zi) (rd:List Nat) (A:Prop):Prop:=match p with
  | .ptr g q=>zej g q v D A
  | _=>zb (domD D) rd A
def zwe (a b:Rec) (A:Prop):Prop:=match b.cl with
  | true=>match a.pt with
    | some p=>SOFT p a.v b.D a.rd A
    | none=>zb (domD b.D) a.rd A
  | false=>zb (domD b.D) a.rd A
def zwo (L:List Rec) (p:Nat×Nat) (A:Prop):Prop:=match L[p.1]?, L[p.2]? with
  | some a,some b=>zb (domD a.D) b.rd (zb (domD a.D) (domD b.D) (zwe a b A))
  | _,_=>False
def zni (L:List Rec) (A:Prop):List (Nat×Nat)→Prop
  | []=>A
  | p :: r=>zwo L p (zni L A r)
theorem zhe:∀ (l m:List Nat),disj l m↔∀ g∈l,g∉m
  | [],m=>by simp [disj]
  | [g],m=>by simp [disj]
  | g :: h :: r,m=>by simp only [disj,zhe (h :: r) m]; simp
theorem zkx (L:List Rec):∀ l:List (Nat×Nat),zfm L l↔∀ p∈l,zmc L p
  | []=>by simp [zfm]
  | [p]=>by simp [zfm]
  | p :: q :: r=>by simp only [zfm,zkx L (q :: r)]; simp
theorem zhq {A:Prop}:∀ (l m:List Nat),zb l m A↔disj l m∧A
  | [],m=>by simp [zb,disj]
  | g :: r,m=>by
    simp only [zb,zhq r m]
    rw [zhe,zhe]
    simp [and_assoc]
theorem zso {g q:Nat} {v:AV} {A:Prop}:∀ D:zi,zej g q v D A↔zmi g q v D∧A
  | []=>by simp [zej,zmi]
  | p :: r=>by
    simp only [zej,zso r]
    simp only [zmi,List.mem_cons,forall_eq_or_imp]
    simp [and_assoc]
theorem zxx {a b:Rec} {A:Prop}:zwe a b A↔zqu a b∧A:=by
  unfold zwe zqu
  cases b.cl with
  | false=>simp only [zhq]
  | true =>
    cases a.pt with
    | none=>simp only [zhq]
    | some p=>cases p <;> simp only [SOFT,zhq,zso]
theorem zsm {L:List Rec} {A:Prop}:∀ l:List (Nat×Nat),zni L A l↔zfm L l∧A
  | []=>by simp [zni,zfm]
  | p :: r=>by
    have h:zwo L p (zni L A r)↔zmc L p∧zni L A r:=by
      unfold zwo zmc
      split
      · simp only [zhq,zxx,zhe,List.mem_append,not_or]
        exact ⟨fun ⟨h1,h2,h3,h4⟩=>⟨⟨fun g hg=>⟨h1 g hg,h2 g hg⟩,h3⟩,h4⟩,fun ⟨⟨h1,h3⟩,h4⟩=>⟨fun g hg=>(h1 g hg).1,fun g hg=>(h1 g hg).2,h3,h4⟩⟩
      · simp
    simp only [zni]
    rw [h,zsm r,zkx,zkx]
    simp [and_assoc]
section
variable {P:Program} {T:Nat→Option AT} {eqs:Nat→Bool} (hT:TOk P T) (hE:EOk P T eqs)
theorem LRel.ops {K:zj} {ρ:Nat→Loc} {A:Nat→Prop} {e:Operand→AV} {ev:Operand→Value} {xs:Array Operand} (h:∀ x∈xs.toList,VRel K ρ A (e x) (ev x)):LRel K ρ A (xs.toList.map e) (xs.map ev).toList:=by
  refine ⟨by simp,fun j v u hv hu => ?_⟩
  simp only [List.getElem?_map,Option.map_eq_some_iff,Array.toList_map] at hv hu
  obtain ⟨x,hx,rfl⟩:=hv
  obtain ⟨y,hy,rfl⟩:=hu
  rw [hx] at hy
  obtain rfl:=Option.some.inj hy
  exact h x (List.mem_of_getElem? hx)
def zxr (P:Program) (o:Oper) (e:Operand→AV) (H:Heap) (rd fr:List Nat) (D:zi) (v:AV) (pt:Option AV):Prop :=
  ∀ g q,pt=some (.ptr g q)→rd=[g]∧fr=[]∧D=[]∧zff (H g) q v∧∀ H1:Heap,zff (H1 g) q v→EffB P o e H1 [g] [] [] v
include hT hE in
theorem zvg {o : Oper} {env:Env} {H:Heap} {nx:Nat} {k:Kt} (h:zng P T eqs o env H nx k) :
    ∃ v rd fr D,FrOk nx fr∧EffB P o env.ev H rd fr D v∧(noW o=true→fr=[]∧D=[])∧zxr P o env.ev H rd fr D v (ptOf T env.ev o)∧k v rd fr D:=by
  have plain : dsop T eqs env.ev H nx o k→∃ v rd fr D,FrOk nx fr∧EffB P o env.ev H rd fr D v∧(noW o=true→fr=[]∧D=[])∧zxr P o env.ev H rd fr D v (ptOf T env.ev o)∧k v rd fr D:=by
    intro h
    by_cases hex:∃ g q,ptOf T env.ev o=some (.ptr g q)
    · obtain ⟨g, q, hp⟩:=hex
      have hp0:=hp
      unfold ptOf at hp
      split at hp
      · rename_i t x hop
        split at hp
        · rename_i a hta
          split at hp
          · rename_i hag
            have hp:=Option.some.inj hp
            simp only [dsop,hop,hta] at h
            obtain ⟨i,d,z,hat⟩:=hT.at hta
            have any:∀ {H1:Heap} {s:Nat} {cs:List AV} {v:AV},H1 g=some (.row s cs)→cs[q]? = some v→EffB P o env.ev H1 [g] [] [] v:=by
              intro H1 s cs v hg hv
              obtain ⟨v',rd',he,rfl,rfl⟩:=zuc (H0:=H1) (e:=env.ev) (k:=fun v' rd' _ _=>v'=v∧rd'=[g]) hat hop (by
                simp only [hp,LOAD,rdp,hg,ldv,hag,cond_false,hv,and_self])
              exact fun A ρ H w ev _ s hx hr hf=>he A ρ H w ev s hx hr hf
            unfold LDR LOAD at h
            rw [hp] at h
            cases hg:H g with
            | none=>simp only [rdp,hg] at h
            | some ob =>
              cases ob with
              | mp es=>simp only [rdp,hg] at h
              | it a b c=>simp only [rdp,hg] at h
              | row s cs =>
                simp only [rdp,hg,ldv,hag,cond_false] at h
                cases hv:cs[q]? with
                | none=>simp only [hv] at h
                | some v =>
                  simp only [hv] at h
                  refine ⟨v,[g],[],[],.inl rfl,any hg hv,fun _=>⟨rfl,rfl⟩,fun g' q' e => ?_,h⟩
                  rw [hp0] at e
                  cases e
                  exact ⟨rfl,rfl,rfl,⟨s,cs,hg,hv⟩,fun H1 ⟨s',cs',h1,h2⟩=>any h1 h2⟩
          · cases hp
        · cases hp
      · cases hp
    · obtain ⟨v,rd,fr,D,h1,h2,h3,h4⟩:=zri hT hE (zabt T eqs h)
      exact ⟨v,rd,fr,D,.of h1,fun A ρ H w ev _ s hx hr hf=>h2 A ρ H w ev s hx hr hf,h4,fun g q e=>absurd ⟨g,q,e⟩ hex,h3⟩
  unfold zng at h
  split at h
  · rename_i c hop
    split at h
    · rename_i f hc
      unfold zm at h
      split at h
      · rename_i fid cap hf
        obtain ⟨v,rd,fr,D,h1,h2,h3⟩:=h
        refine ⟨v,rd,fr,D,h1,fun A ρ H w ev hB s hx hr hfr => ?_,fun hn=>by simp [noW,hop] at hn,fun g q e=>by simp [ptOf,hop] at e,h3⟩
        have hfv:=hx f (by simp [hop,Op.operands,Call.operands,hc])
        rw [hf] at hfv
        generalize hcv:ev f=cv at hfv
        cases hfv with
        | clo _ _ cs hl hR =>
          have hargs:LRel (Kof ρ H w) ρ A (c.args.toList.map env.ev ++ cap) (c.args.map ev ++ cs).toList:=by
            rw [Array.toList_append]
            exact LRel.append (LRel.ops fun x hx'=>hx x (by simp only [hop,Op.operands,Call.operands,hc]; simp; exact .inr (by simpa using hx'))) ⟨by simpa using hl,fun j v u hv hu=>hR j v u hv (by simpa using hu)⟩
          have:=h2 A ρ H w (c.args.map ev ++ cs) hB s hargs hr hfr
          have e:(execOp ev o).run P w=(callFunc fid (c.args.map ev ++ cs)).run P w:=by
            simp only [execOp,hop,resolve,hc,hcv,Deferred.ofValue,Sem.run_bind,Sem.run_pure,Result.andThen_ok,invoke,Array.empty_append]
          rw [e]
          exact this
      · exact h.elim
    · exact plain h
  · exact plain h
def Fact (P:Program) (all:List Oper) (o:Oper) (r:Rec) (nx:Nat):Prop :=
  FrOk nx r.fr∧(noW o=true→r.fr=[]∧r.D=[]) ∧
  if r.skip then r.pt=none∧r.v=.und∧r.rd=[]∧r.fr=[]∧r.D=[]∧∃ j want t,o.guard=some (j,want)∧gdst all j=some t∧(r.env t=.und∨r.env t=.bool (!want))
  else EffB P o r.env.ev r.H r.rd r.fr r.D r.v∧zxr P o r.env.ev r.H r.rd r.fr r.D r.v r.pt∧(o.guard=none∨∃ j want t,o.guard=some (j,want)∧gdst all j=some t∧r.env t=.bool want)
def zlb (P:Program) (all:List Oper):List Oper→List Rec→Env→Heap→Nat→Env→Heap→Nat→Prop
  | [],[],env,H,nx,env',H',nx'=>env'=env∧H'=H∧nx'=nx
  | o :: r,x :: t,env,H,nx,env',H',nx'=>x.env=env∧x.H=H∧Fact P all o x nx∧zlb P all r t (env.putO o.dst x.v) (H.apply x.D) (nx+x.fr.length) env' H' nx'
  | _,_,_,_,_,_,_,_=>False
include hT hE in
theorem znh {all:List Oper} {K:Env→Heap→Nat→List Rec→Prop}:∀ (rest:List Oper) (kn:zcg) (env:Env) (H:Heap) (nx:Nat) (log:List Rec),KnOk kn env→dops P T eqs all rest kn env H nx log K →
    ∃ L env' H' nx',zlb P all rest L env H nx env' H' nx'∧K env' H' nx' (log ++ L)
  | [],kn,env,H,nx,log,_,h=>⟨[],env,H,nx,⟨rfl,rfl,rfl⟩,by rw [List.append_nil]; exact h⟩
  | o :: r, kn,env,H,nx,log,hkn,h=>by
    have run:∀ (kn1:zcg) (env1:Env),env1=env→KnOk kn1 env1→(o.guard=none∨∃ j want t,o.guard=some (j,want)∧gdst all j=some t∧env1 t=.bool want) →
        zng P T eqs o env1 H nx (fun v rd fr D=>dops P T eqs all r (zei o.dst kn1) (env1.putO o.dst v) (H.apply D) (nx+fr.length) (log ++ [⟨v,rd,fr,D,false,env1,H,ptOf T env1.ev o,isCl o⟩]) K) →
        ∃ L env' H' nx',zlb P all (o :: r) L env H nx env' H' nx'∧K env' H' nx' (log ++ L):=by
      intro kn1 env1 he hk1 hg hs
      subst he
      obtain ⟨v,rd,fr,D,h1,h2,h3,hsf,h4⟩:=zvg hT hE hs
      obtain ⟨L,env',H',nx',q1,q2⟩:=znh r _ _ _ _ _ (hk1.drop o.dst v) h4
      exact ⟨⟨v,rd,fr,D,false,env1,H,ptOf T env1.ev o,isCl o⟩ :: L,env',H',nx',⟨rfl,rfl,⟨h1,h3,by simp only [Bool.false_eq_true,if_false]; exact ⟨h2,hsf,hg⟩⟩,q1⟩,by simpa using q2⟩
    have skip:∀ (kn1:zcg) (env1:Env),env1=env→KnOk kn1 env1→(∃ j want t,o.guard=some (j,want)∧gdst all j=some t∧(env1 t=.und∨env1 t=.bool (!want))) →
        dops P T eqs all r (zfk o.dst kn1) (env1.putO o.dst .und) H nx (log ++ [⟨.und,[],[],[],true,env1,H,none,false⟩]) K →
        ∃ L env' H' nx',zlb P all (o :: r) L env H nx env' H' nx'∧K env' H' nx' (log ++ L):=by
      intro kn1 env1 he hk1 hg hs
      subst he
      obtain ⟨L,env',H',nx',q1,q2⟩:=znh r _ _ _ _ _ (hk1.skip o.dst) hs
      exact ⟨⟨.und,[],[],[],true,env1,H,none,false⟩ :: L,env',H',nx',⟨rfl,rfl,⟨.inl rfl,fun _=>⟨rfl,rfl⟩,(if_pos rfl).mpr ⟨rfl,rfl,rfl,rfl,rfl,hg⟩⟩,q1⟩,by simpa using q2⟩
    simp only [dops] at h
    split at h
    · rename_i hg
      exact run kn env rfl hkn (.inl hg) h
    · rename_i j want hg
      split at h
      · exact h.elim
      · rename_i t ht
        split at h
        · rename_i hk
          have hu:=hkn t none (zhn hk)
          exact skip kn env rfl hkn ⟨j,want,t,hg,ht,.inl hu⟩ h
        · rename_i b hk
          have hb:=hkn t (some b) (zhn hk)
          simp only at hb
          cases hbw:(b == want) with
          | true =>
            rw [hbw] at h
            have:b=want:=by simpa using hbw
            subst this
            exact run kn env rfl hkn (.inr ⟨j,b,t,hg,ht,hb⟩) h
          | false =>
            rw [hbw] at h
            have:b = !want:=by cases b <;> cases want <;> simp_all
            subst this
            exact skip kn env rfl hkn ⟨j,want,t,hg,ht,.inr hb⟩ h
        · obtain ⟨b,hb,h1,h2⟩:=zsn h
          have hk2:=hkn.know hb
          have he:=zqe hb
          cases b with
          | true =>
            have h:=h1 rfl
            cases want with
            | true=>exact run _ _ he hk2 (.inr ⟨j,true,t,hg,ht,by rw [he]; exact hb⟩) h
            | false=>exact skip _ _ he hk2 ⟨j,false,t,hg,ht,.inr (by rw [he]; exact hb)⟩ h
          | false =>
            have h:=h2 rfl
            cases want with
            | true=>exact skip _ _ he hk2 ⟨j,true,t,hg,ht,.inr (by rw [he]; exact hb)⟩ h
            | false=>exact run _ _ he hk2 (.inr ⟨j,false,t,hg,ht,by rw [he]; exact hb⟩) h
end
/-! What the log says of any order. -/
theorem zfy (D:zi):∀ (H:Heap) (g:Nat),g∉domD D→H.apply D g=H g:=by
  induction D with
  | nil=>intro H g _; rfl
  | cons p r ih =>
    intro H g hg
    obtain ⟨x,o⟩:=p
    simp only [domD,List.map_cons,List.mem_cons,not_or] at hg
    simp only [Heap.apply]
    rw [ih _ g hg.2,Heap.put_ne _ _ hg.1]
theorem znm (D:zi):∀ (H H':Heap) (g:Nat),(H g=H' g∨g∈domD D)→H.apply D g=H'.apply D g:=by
  induction D with
  | nil =>
    intro H H' g h
    rcases h with h | h
    · exact h
    · cases h
  | cons p r ih =>
    intro H H' g h
    obtain ⟨x,o⟩:=p
    simp only [Heap.apply]
    refine ih _ _ g ?_
    by_cases hx:g=x
    · left; subst hx; rw [Heap.put_at,Heap.put_at]
    · rcases h with h | h
      · left; rw [Heap.put_ne _ _ hx,Heap.put_ne _ _ hx]; exact h
      · right
        simp only [domD,List.map_cons,List.mem_cons] at h
        rcases h with h | h
        · exact absurd h hx
        · exact h
def hD (ls:Nat→Bool):List Rec→Nat→Heap→Heap
  | [],_,H=>H
  | r :: t,i,H=>hD ls t (i+1) (bif ls i then H.apply r.D else H)
theorem zkj {ls ls':Nat→Bool} {g:Nat}:∀ (L:List Rec) (i:Nat) (H H':Heap),H g=H' g→(∀ j r,L[j]? = some r→g∈domD r.D→ls (i+j)=ls' (i+j))→hD ls L i H g=hD ls' L i H' g
  | [],i,H,H',h,_=>h
  | r :: t,i,H,H',h,hl=>by
    simp only [hD]
    refine zkj t (i+1) _ _ ?_ fun j x hj hg=>by have:=hl (j+1) x (by simpa using hj) hg; rwa [show i+1+j=i+(j+1) by omega]
    by_cases hg:g∈domD r.D
    · have:=hl 0 r rfl hg
      simp only [Nat.add_zero] at this
      rw [this]
      cases ls' i with
      | true=>exact znm _ _ _ _ (.inr hg)
      | false=>exact h
    · have e:∀ (b:Bool) (X:Heap),(bif b then X.apply r.D else X) g=X g:=by
        intro b X; cases b
        · rfl
        · exact zfy _ _ _ hg
      rw [e,e]; exact h
theorem zop {g q:Nat} {v:AV}:∀ {D:zi},zmi g q v D→g∈domD D→∀ X:Heap,zff (X.apply D g) q v
  | [],_,h,_=>by cases h
  | (x, o) :: r,hc,hg,X=>by
    simp only [Heap.apply]
    by_cases hr:g∈domD r
    · exact zop (fun p hp=>hc p (by simp [hp])) hr _
    · rw [zfy _ _ _ hr]
      simp only [domD,List.map_cons,List.mem_cons] at hg
      rcases hg with rfl | hg
      · rw [Heap.put_at]; exact hc _ List.mem_cons_self rfl
      · exact absurd hg hr
theorem zvw {ls ls':Nat→Bool} {g:Nat} {φ:Option AObj→Prop}:∀ (L:List Rec) (i:Nat) (H H':Heap),(H g=H' g∨φ (H g)) →
    (∀ j r,L[j]? = some r→g∈domD r.D→ls (i+j)=ls' (i+j)∨(ls' (i+j)=false∧∀ X:Heap,φ (X.apply r.D g)))→hD ls L i H g=hD ls' L i H' g∨φ (hD ls L i H g)
  | [],i,H,H',h,_=>h
  | r :: t,i,H,H',h,hl=>by
    simp only [hD]
    refine zvw t (i+1) _ _ ?_ fun j x hj hg=>by have:=hl (j+1) x (by simpa using hj) hg; rwa [show i+1+j=i+(j+1) by omega]
    by_cases hg:g∈domD r.D
    · have:=hl 0 r rfl hg
      simp only [Nat.add_zero] at this
      rcases this with e | ⟨e1,e2⟩
      · rw [e]
        cases ls' i with
        | true=>exact .inl (znm _ _ _ _ (.inr hg))
        | false=>exact h
      · rw [e1]
        cases ls i with
        | true=>exact .inr (e2 H)
        | false=>exact h
    · have e:∀ (b:Bool) (X:Heap),(bif b then X.apply r.D else X) g=X g:=by
        intro b X; cases b
        · rfl
        · exact zfy _ _ _ hg
      rw [e,e]; exact h
theorem zrc {ls:Nat→Bool}:∀ (L:List Rec) (i k:Nat) (r:Rec) (H:Heap),L[k]? = some r→ls (i+k)=false→(∀ j x,k < j→L[j]? = some x→ls (i+j)=true→∀ g∈domD r.D,g∉domD x.D) →
    hD (fun x=>bif Nat.beq x (i+k) then true else ls x) L i H=(hD ls L i H).apply r.D:=by
  intro L
  induction L with
  | nil=>intro i k r H h; simp at h
  | cons y t ih =>
    intro i k r H hk hl hlast
    simp only [hD]
    cases k with
    | zero =>
      simp only [List.getElem?_cons_zero,Option.some.injEq] at hk
      subst hk
      simp only [Nat.add_zero] at hl ⊢
      have e1:Nat.beq i i=true:=by simp
      rw [e1,hl]
      simp only [cond_true,cond_false]
      funext g
      by_cases hg:g∈domD y.D
      · have h1:hD (fun x=>bif Nat.beq x i then true else ls x) t (i+1) (H.apply y.D) g=H.apply y.D g:=by
          have:∀ j x,t[j]? = some x→g∈domD x.D→(fun x=>bif Nat.beq x i then true else ls x) (i+1+j)=(fun _=>false) (i+1+j):=by
            intro j x hj hgx
            have hne:Nat.beq (i+1+j) i=false:=by rw [← Bool.not_eq_true,Nat.beq_eq]; omega
            simp only [hne,cond_false]
            cases hb:ls (i+1+j) with
            | false=>rfl
            | true=>exact absurd hgx (hlast (j+1) x (by omega) (by simpa using hj) (by rw [← hb]; congr 1; omega) g hg)
          rw [zkj (ls':=fun _=>false) t (i+1) _ (H.apply y.D) rfl this]
          exact congrFun (hD_none t (i+1) _) g
        rw [h1]
        exact znm _ _ _ _ (.inr hg)
      · rw [zfy _ _ _ hg]
        refine zkj t (i+1) _ _ (zfy _ _ _ hg) fun j x hj _ => ?_
        have hne:Nat.beq (i+1+j) i=false:=by rw [← Bool.not_eq_true,Nat.beq_eq]; omega
        simp only [hne,cond_false]
    | succ k =>
      have hne:Nat.beq i (i+(k+1))=false:=by rw [← Bool.not_eq_true,Nat.beq_eq]; omega
      rw [hne]
      simp only [cond_false]
      have:=ih (i+1) k r (bif ls i then H.apply y.D else H) (by simpa using hk) (by rw [show i+1+k=i+(k+1) by omega]; exact hl)
        (fun j x hj hx hlx g hg=>hlast (j+1) x (by omega) (by simpa using hx) (by rw [show i+(j+1)=i+1+j by omega]; exact hlx) g hg)
      rw [show i+1+k=i+(k+1) by omega] at this
      exact this
where
  hD_none:∀ (L:List Rec) (i:Nat) (H:Heap),hD (fun _=>false) L i H=H
    | [],_,_=>rfl
    | _ :: t,i,H=>by simp only [hD,cond_false]; exact hD_none t (i+1) H
def eD (ls:Nat→Bool):List Oper→List Rec→Nat→Env→Env
  | o :: r,x :: t,i,env=>eD ls r t (i+1) (bif ls i then env.putO o.dst x.v else env)
  | _,_,_,env=>env
theorem zfx {ls:Nat→Bool} {t:Nat}:∀ (os:List Oper) (L:List Rec) (i:Nat) (env:Env),(∀ o∈os,o.dst ≠ some t)→eD ls os L i env t=env t
  | [],L,i,env,_=>by simp [eD]
  | o :: r,[],i,env,_=>by simp [eD]
  | o :: r,x :: L,i,env,h=>by
    simp only [eD]
    rw [zfx r L (i+1) _ fun o ho=>h o (by simp [ho])]
    cases ls i with
    | false=>rfl
    | true=>simp only [cond_true,zhb]; rw [if_neg (h o (by simp))]
theorem zhp {ls:Nat→Bool} {t:Nat}:∀ (os:List Oper) (L:List Rec) (i k:Nat) (o:Oper) (x:Rec) (env:Env),os[k]? = some o→L[k]? = some x→o.dst=some t→(∀ k' o',os[k']? = some o'→o'.dst=some t→k'=k) →
    eD ls os L i env t=bif ls (i+k) then x.v else env t
  | [],L,i,k,o,x,env,h,_,_,_=>by simp at h
  | o' :: r,[],i,k,o,x,env,_,h,_,_=>by simp at h
  | o' :: r,y :: L,i,0,o,x,env,ho,hx,hd,hu=>by
    simp only [List.getElem?_cons_zero,Option.some.injEq] at ho hx
    subst ho; subst hx
    simp only [eD,Nat.add_zero]
    rw [zfx r L (i+1) _ fun q hq e=>by
      obtain ⟨k,hk⟩:=List.getElem?_of_mem hq
      have:=hu (k+1) q (by simpa using hk) e
      omega]
    cases ls i with
    | false=>rfl
    | true=>simp only [cond_true,zhb]; rw [if_pos hd]
  | o' :: r,y :: L,i,k+1,o,x,env,ho,hx,hd,hu=>by
    simp only [eD]
    rw [zhp r L (i+1) k o x _ (by simpa using ho) (by simpa using hx) hd fun k' q hq e=>by have:=hu (k'+1) q (by simpa using hq) e; omega]
    rw [show i+1+k=i+(k+1) by omega]
    have hne:o'.dst ≠ some t:=fun e=>by have:=hu 0 o' rfl e; omega
    have:(bif ls i then env.putO o'.dst y.v else env) t=env t:=by
      cases ls i with
      | false=>rfl
      | true=>simp only [cond_true,zhb]; rw [if_neg hne]
    rw [this]
structure At (P:Program) (all:List Oper) (L:List Rec) (os:List Oper) (k:Nat) (env:Env) (H:Heap) (N:Nat→Nat) (i:Nat) (o:Oper) (r:Rec):Prop where
  get:L[i]? = some r
  env:r.env=eD (fun x=>decide (x < k+i)) os L k env
  H:r.H=hD (fun x=>decide (x < k+i)) L k H
  fact:Fact P all o r (N i)
theorem zqm {P:Program} {all:List Oper}:∀ (os:List Oper) (L:List Rec) (k:Nat) (env:Env) (H:Heap) (nx:Nat) (env':Env) (H':Heap) (nx':Nat),zlb P all os L env H nx env' H' nx' →
    L.length=os.length∧env'=eD (fun _=>true) os L k env∧H'=hD (fun _=>true) L k H ∧
    ∃ N:Nat→Nat,N 0=nx∧N os.length=nx'∧(∀ i r,L[i]? = some r→N (i+1)=N i+r.fr.length)∧∀ i o,os[i]? = some o→∃ r,At P all L os k env H N i o r
  | [],[],k,env,H,nx,env',H',nx',⟨h1,h2,h3⟩=>⟨rfl,h1,h2,fun _=>nx,rfl,h3.symm,fun i r h=>by simp at h,fun i o h=>by simp at h⟩
  | [],_ :: _,_,_,_,_,_,_,_,h=>h.elim
  | _ :: _,[],_,_,_,_,_,_,_,h=>h.elim
  | o :: os,r :: L,k,env,H,nx,env',H',nx',⟨h1,h2,h3,h4⟩=>by
    obtain ⟨q1,q2,q3,N,n0,nl,ns,hat⟩:=zqm os L (k+1) _ _ _ _ _ _ h4
    refine ⟨by simp [q1],by rw [q2]; rfl,by rw [q3]; rfl,fun i=>if i=0 then nx else N (i - 1),rfl,by simpa using nl,fun i x hx => ?_,fun i p hp => ?_⟩
    · cases i with
      | zero =>
        simp only [List.getElem?_cons_zero,Option.some.injEq] at hx
        subst hx
        simp [n0]
      | succ i=>have:=ns i x (by simpa using hx); simpa using this
    · cases i with
      | zero =>
        simp only [List.getElem?_cons_zero,Option.some.injEq] at hp
        subst hp
        have hf:∀ x,k≤x→decide (x < k+0)=false:=fun x hx=>by simp; omega
        refine ⟨r,rfl,?_,?_,by simpa using h3⟩
        · rw [h1]; exact (eD_off (o :: os) (r :: L) k env fun x hx=>hf x hx).symm
        · rw [h2]; exact (hD_off (r :: L) k H fun x hx=>hf x hx).symm
      | succ i =>
        obtain ⟨x,a1,a2,a3,a4⟩:=hat i p (by simpa using hp)
        refine ⟨x,by simpa using a1,?_,?_,by simpa using a4⟩
        · rw [a2]; simp only [eD]
          rw [show k+(i+1)=k+1+i by omega,show decide (k < k+1+i)=true by simp; omega]; rfl
        · rw [a3]; simp only [hD]
          rw [show k+(i+1)=k+1+i by omega,show decide (k < k+1+i)=true by simp; omega]; rfl
where
  eD_off {ls:Nat→Bool}:∀ (os:List Oper) (L:List Rec) (k:Nat) (env:Env),(∀ x,k≤x→ls x=false)→eD ls os L k env=env
    | [],L,k,env,_=>by simp [eD]
    | o :: r,[],k,env,_=>by simp [eD]
    | o :: r,x :: L,k,env,h=>by
      simp only [eD,h k (Nat.le_refl _),cond_false]
      exact eD_off r L (k+1) env fun x hx=>h x (by omega)
  hD_off {ls:Nat→Bool}:∀ (L:List Rec) (k:Nat) (H:Heap),(∀ x,k≤x→ls x=false)→hD ls L k H=H
    | [],k,H,_=>rfl
    | x :: L,k,H,h=>by
      simp only [hD,h k (Nat.le_refl _),cond_false]
      exact hD_off L (k+1) H fun x hx=>h x (by omega)
section
variable {ops:Array Oper} {listed:Array Bool}
theorem zfg (hc:∀ i,listed.getD i false=true→∀ j∈zbd ops i,listed.getD j false=true):∀ (f i j:Nat),zcw ops f i j=true→listed.getD j false=true→listed.getD i false=true
  | 0,i,j,h,_=>by simp [zcw] at h
  | f + 1,i,j,h,hj=>by
    simp only [zcw,List.any_eq_true,Bool.or_eq_true] at h
    obtain ⟨p,hp,h⟩:=h
    have hpl:=hc j hj p hp
    rcases h with h | h
    · have:p=i:=Nat.eq_of_beq_eq_true h
      rw [← this]; exact hpl
    · exact zfg hc f i p h hpl
theorem zor (hc:∀ i,listed.getD i false=true→∀ j∈zbd ops i,listed.getD j false=true) {i:Nat} (hr:∀ j∈zbd ops i,listed.getD j false=true) (f j:Nat) (h:zcw ops f j i=true):listed.getD j false=true:=by
  cases f with
  | zero=>simp [zcw] at h
  | succ f =>
    simp only [zcw,List.any_eq_true,Bool.or_eq_true] at h
    obtain ⟨p,hp,h⟩:=h
    rcases h with h | h
    · have:p=j:=Nat.eq_of_beq_eq_true h
      rw [← this]; exact hr p hp
    · exact zfg hc f j p h (hr p hp)
end
end Go.Proofs.YtpllgpgdcbgalaaDoor
set_option maxRecDepth 8000
namespace Go.Proofs.YtpllgpgdcbgalaaDoor
open Go Go.RowKit
def lsOf (listed:Array Bool):Nat→Bool:=fun i=>listed.getD i false
def AD (B:Nat→Prop) (L:List Rec) (ls:Nat→Bool):Nat→Prop:=fun g=>B g∨∃ i r,ls i=true∧L[i]? = some r∧g∈r.fr
section
variable {P:Program} {ops:Array Oper} {L:List Rec} {env0:Env} {H0:Heap} {nx0 N:Nat} {B:Nat→Prop}
structure DInv (ops:Array Oper) (L:List Rec) (env0:Env) (H0:Heap) (B:Nat→Prop) (N:Nat) (ρ0:Nat→Loc) (w0:World) (listed:Array Bool) (a:Act) (w:World):Prop where
  sz:listed.size=ops.size
  closed:∀ i,listed.getD i false=true→∀ j∈zbd ops i,listed.getD j false=true
  tsz:a.tmps.size=N
  defers:a.defers=[]
  st : ∃ ρ,Sim (AD B L (lsOf listed)) ρ (hD (lsOf listed) L 0 H0) w∧Fr B ρ0 H0 w0 (AD B L (lsOf listed)) ρ (hD (lsOf listed) L 0 H0) w ∧
    ∀ t,VRel (Kof ρ (hD (lsOf listed) L 0 H0) w) ρ (AD B L (lsOf listed)) (eD (lsOf listed) ops.toList L 0 env0 t) (a.tmps.getD t undef)
theorem zaam {listed:Array Bool} {i:Nat} (hi:i < listed.size):lsOf (listed.setIfInBounds i true)=fun x=>bif Nat.beq x (0+i) then true else lsOf listed x:=by
  funext x
  simp only [lsOf,Nat.zero_add]
  rw [zdz hi]
  by_cases h:x=i
  · subst h; simp
  · have:Nat.beq x i=false:=by rw [← Bool.not_eq_true,Nat.beq_eq]; exact h
    rw [if_neg h,this]; rfl
theorem zus {listed:Array Bool} {i:Nat} (hi:i < listed.size) {r:Rec} (hr:L[i]? = some r) (hl:listed.getD i false=false):AD B L (lsOf (listed.setIfInBounds i true))=fun x=>AD B L (lsOf listed) x∨x∈r.fr:=by
  funext g
  simp only [AD,lsOf,eq_iff_iff]
  constructor
  · rintro (h | ⟨j,x,h1,h2,h3⟩)
    · exact .inl (.inl h)
    · rw [zdz hi] at h1
      by_cases hj:j=i
      · subst hj
        rw [hr] at h2
        obtain rfl:=Option.some.inj h2
        exact .inr h3
      · rw [if_neg hj] at h1
        exact .inl (.inr ⟨j,x,h1,h2,h3⟩)
  · rintro ((h | ⟨j,x,h1,h2,h3⟩) | h)
    · exact .inl h
    · refine .inr ⟨j,x,?_,h2,h3⟩
      rw [zdz hi]; split
      · rfl
      · exact h1
    · refine .inr ⟨i,r,?_,hr,h⟩
      rw [zdz hi,if_pos rfl]
theorem zwu {i j:Nat} {a b:Oper} (hij:i < j) (ha:ops[i]? = some a) (hb:ops[j]? = some b) (hn:(noW a && noW b)=false) (hbf:befB (ancL ops ops.size) i j=false):(i,j)∈zrg ops:=by
  unfold zrg zwb
  rw [List.mem_flatMap]
  refine ⟨j,List.mem_range.2 (Array.getElem?_eq_some_iff.1 hb).1,?_⟩
  rw [List.mem_filterMap]
  refine ⟨i,List.mem_range.2 hij,?_⟩
  simp [ha,hb,hn,hbf]
theorem zut (hok : zog ops N=true) {Q:Exit→Act→World→Prop} {ρ0:Nat→Loc} {w0:World} {env':Env} {H':Heap} {nx':Nat}
    (hch:zlb P ops.toList ops.toList L env0 H0 nx0 env' H' nx') (hco:zfm L (zrg ops))
    (hBf:∀ g,nx0≤g→g < nx'→¬ B g) (hBb:∃ M,∀ g,B g→g < M)
    (hend:∀ (a:Act) (w:World) (ρ:Nat→Loc),Sim (fun g=>B g∨nx0≤g∧g < nx') ρ H' w→(∀ t,VRel (Kof ρ H' w) ρ (fun g=>B g∨nx0≤g∧g < nx') (env' t) (a.tmps.getD t undef))→a.tmps.size=N→a.defers=[]→Fr B ρ0 H0 w0 (fun g=>B g∨nx0≤g∧g < nx') ρ H' w→Q .normal a w) :
    ∀ (fuel:Nat) (listed:Array Bool) (a:Act) (w:World),DInv ops L env0 H0 B N ρ0 w0 listed a w→((List.range ops.size).filter fun i=>!listed.getD i false).length≤fuel→wpAny P .any ops Q fuel listed a w:=by
  obtain ⟨hlen,henv',hH',Nf,hN0,hNl,hNs,hat⟩:=zqm _ _ 0 _ _ _ _ _ _ hch
  have hlen':L.length=ops.size:=by simpa using hlen
  have hops:∀ {i:Nat} {o:Oper},ops[i]? = some o→ops.toList[i]? = some o:=fun h=>by simpa using h
  have hNmono : ∀ i j,i≤j→j≤L.length→Nf i≤Nf j:=by
    intro i j hij hj
    induction j with
    | zero => have:i=0:=by omega
              rw [this]; exact Nat.le_refl _
    | succ j ih =>
      by_cases h:i=j+1
      · rw [h]; exact Nat.le_refl _
      · have:=ih (by omega) (by omega)
        have h2:=hNs j _ (List.getElem?_eq_getElem (by omega))
        omega
  have hfr:∀ {i:Nat} {r:Rec},L[i]? = some r→∀ g∈r.fr,Nf i≤g∧g < Nf (i+1):=by
    intro i r hr g hg
    have hi:=(List.getElem?_eq_some_iff.1 hr).1
    have ho:ops[i]? = some ops[i]:=Array.getElem?_eq_getElem (by omega)
    obtain ⟨r',q1,_,_,q4⟩:=hat i _ (hops ho)
    rw [hr] at q1
    obtain rfl:=Option.some.inj q1
    have hs:=hNs i r hr
    have:=FrOk.at q4.1 g hg
    omega
  have hAN:∀ ls g,AD B L ls g→B g∨nx0≤g∧g < nx':=by
    rintro ls g (h | ⟨i,r,h1,h2,h3⟩)
    · exact .inl h
    · obtain ⟨e1,e2⟩:=hfr h2 g h3
      have hi:=(List.getElem?_eq_some_iff.1 h2).1
      have:=hNmono (i+1) L.length (by omega) (by omega)
      have h0:=hNmono 0 i (by omega) (by omega)
      rw [hN0] at h0
      rw [← hNl,← hlen]; right; omega
  have hADb:∀ ls,Bdd (AD B L ls):=by
    intro ls
    obtain ⟨M,hM⟩:=hBb
    refine ⟨max M nx',fun g hg => ?_⟩
    rcases hAN ls g hg with h | h
    · have:=hM g h; omega
    · omega
  have pair:∀ {i j:Nat} {r x:Rec},i < j→L[i]? = some r→L[j]? = some x→befB (ancL ops ops.size) i j=false→(∀ g∈domD r.D,g∉x.rd∧g∉domD x.D)∧((∀ g∈domD x.D,g∉r.rd)∨∃ g q,r.pt=some (.ptr g q)∧zmi g q r.v x.D):=by
    intro i j r x hij hr hx hb
    have hi:=(List.getElem?_eq_some_iff.1 hr).1
    have hj:=(List.getElem?_eq_some_iff.1 hx).1
    have hoi:ops[i]? = some ops[i]:=Array.getElem?_eq_getElem (by omega)
    have hoj:ops[j]? = some ops[j]:=Array.getElem?_eq_getElem (by omega)
    cases hn:(noW ops[i] && noW ops[j]) with
    | true =>
      simp only [Bool.and_eq_true] at hn
      obtain ⟨r',q1,_,_,q4⟩:=hat i _ (hops hoi)
      rw [hr] at q1
      obtain rfl:=Option.some.inj q1
      obtain ⟨x',p1,_,_,p4⟩:=hat j _ (hops hoj)
      rw [hx] at p1
      obtain rfl:=Option.some.inj p1
      rw [(q4.2.1 hn.1).2,(p4.2.1 hn.2).2]
      exact ⟨(fun g hg=>by cases hg),.inl (fun g hg=>by cases hg)⟩
    | false =>
      have:=(zkx L _).1 hco _ (zwu hij hoi hoj hn hb)
      simp only [zmc,hr,hx] at this
      obtain ⟨h1,h2⟩:=this
      rw [zhe] at h1
      refine ⟨fun g hg=>by have:=h1 g hg; simpa using this,?_⟩
      unfold zqu at h2
      split at h2
      · rename_i g q _ hpt
        exact .inr ⟨g,q,hpt,h2⟩
      · rw [zhe] at h2; exact .inl h2
  have uniq:∀ {i:Nat} {o:Oper} {t:Nat},ops[i]? = some o→o.dst=some t→∀ k' o',ops.toList[k']? = some o'→o'.dst=some t→k'=i:=by
    intro i o t ho hd k' o' hk hd'
    have h1:=((zcy hok ho).2.1 t hd).1
    have h2:=((zcy hok (o:=o') (i:=k') (by simpa using hk)).2.1 t hd').1
    rw [h1] at h2
    exact (Option.some.inj h2).symm
  have fin : ∀ (listed:Array Bool) (a:Act) (w:World),DInv ops L env0 H0 B N ρ0 w0 listed a w→Region.ready .any ops listed=[]→Q .normal a w:=by
    intro listed a w inv hr
    have all:∀ n i,i < n→i < ops.size→listed.getD i false=true:=by
      intro n
      induction n with
      | zero=>intro i hi; omega
      | succ n ih =>
        intro i hi hs
        by_cases hl:listed.getD i false=true
        · exact hl
        · exfalso
          have ho:ops[i]? = some ops[i]:=Array.getElem?_eq_getElem hs
          have:i∈Region.ready .any ops listed:=(zob inv.sz).2 ⟨ops[i],ho,by simpa using hl,fun j hj=>ih j (by have:=(zcy hok ho).1 j hj; omega) (by have:=(zcy hok ho).1 j hj; omega)⟩
          rw [hr] at this
          cases this
    have all':∀ i,i < ops.size→lsOf listed i=true:=fun i hi=>all (i+1) i (by omega) hi
    obtain ⟨ρ,s,f,hv⟩:=inv.st
    have eH:hD (lsOf listed) L 0 H0=H':=by
      rw [hH']
      funext g
      exact zkj L 0 _ _ rfl fun j r hj _=>by
        have:=(List.getElem?_eq_some_iff.1 hj).1
        rw [Nat.zero_add]; exact all' j (by omega)
    have eE:∀ t,eD (lsOf listed) ops.toList L 0 env0 t=env' t:=by
      intro t
      rw [henv']
      by_cases hw:∃ (i:Nat) (o:Oper),ops[i]? = some o∧o.dst=some t
      · obtain ⟨i,o,ho,hd⟩:=hw
        have hi:=(Array.getElem?_eq_some_iff.1 ho).1
        have hx:L[i]? = some (L[i]'(by omega)):=List.getElem?_eq_getElem (by omega)
        rw [zhp _ _ 0 i o _ env0 (hops ho) hx hd (uniq ho hd),zhp _ _ 0 i o _ env0 (hops ho) hx hd (uniq ho hd),Nat.zero_add,all' i hi]
      · have hno:∀ o∈ops.toList,o.dst ≠ some t:=fun o ho e=>hw (by
          obtain ⟨i,hi⟩:=List.getElem?_of_mem ho
          exact ⟨i,o,by simpa using hi,e⟩)
        rw [zfx _ _ _ _ hno,zfx _ _ _ _ hno]
    have hsub:∀ g,AD B L (lsOf listed) g→ρ g=ρ g∧(B g∨nx0≤g∧g < nx'):=fun g hg=>⟨rfl,hAN _ g hg⟩
    rw [eH] at s f hv
    have s':Sim (fun g=>B g∨nx0≤g∧g < nx') ρ H' w:=⟨fun g o hg=>hAN _ g (s.live g o hg),fun g o hg=>(s.obj g o hg).mono rfl (fun _ _ h=>h) hsub,s.inj,s.lay⟩
    refine hend a w ρ s' (fun t => ?_) inv.tsz inv.defers ⟨fun g hg=>⟨(f.agree g hg).1,hAN _ g (f.agree g hg).2⟩,f.k,f.os,f.tape,f.output,f.size⟩
    have:=hv t
    rw [eE] at this
    exact this.mono (fun _ _ h=>h) hsub
  intro fuel
  induction fuel with
  | zero =>
    intro listed a w inv hle
    have hr:Region.ready .any ops listed=[]:=by
      cases hr:Region.ready .any ops listed with
      | nil=>rfl
      | cons i r =>
        exfalso
        have hi:i∈Region.ready .any ops listed:=by rw [hr]; simp
        obtain ⟨o,ho,hl,_⟩:=(zob inv.sz).1 hi
        have:i∈(List.range ops.size).filter fun i=>!listed.getD i false:=by
          rw [List.mem_filter]; exact ⟨List.mem_range.2 (Array.getElem?_eq_some_iff.1 ho).1,by rw [hl]; rfl⟩
        have:=List.length_pos_of_mem this
        omega
    exact ⟨hr,fin listed a w inv hr⟩
  | succ fuel ih =>
    intro listed a w inv hle
    refine ⟨fun hr=>fin listed a w inv hr,fun i hi => ?_⟩
    obtain ⟨o,ho,hl,hp⟩:=(zob inv.sz).1 hi
    have his:i < ops.size:=(Array.getElem?_eq_some_iff.1 ho).1
    have hil:i < listed.size:=by rw [inv.sz]; exact his
    obtain ⟨r,hr,henv,hH,hfact⟩:=hat i o (hops ho)
    simp only [Nat.zero_add] at henv hH
    obtain ⟨hp1,hp2,hp3,hp4⟩:=zcy hok ho
    obtain ⟨ρ,s,f,hv⟩:=inv.st
    have hlast:∀ j x,i < j→L[j]? = some x→lsOf listed (0+j)=true→∀ g∈domD r.D,g∉domD x.D:=by
      intro j x hij hx hlx g hg
      rw [Nat.zero_add] at hlx
      cases hb:befB (ancL ops ops.size) i j with
      | true =>
        have:=zfg inv.closed _ i j (zfh hb).choose_spec hlx
        rw [hl] at this; cases this
      | false=>exact ((pair hij hr hx hb).1 g hg).2
    have hHadd:hD (lsOf (listed.setIfInBounds i true)) L 0 H0=(hD (lsOf listed) L 0 H0).apply r.D:=by
      rw [zaam hil]
      exact zrc L 0 i r H0 hr (by rw [Nat.zero_add]; exact hl) hlast
    have hrdeq:(¬ ∃ g q,r.pt=some (.ptr g q))→∀ g∈r.rd,hD (lsOf listed) L 0 H0 g=r.H g:=by
      intro hnp g hg
      rw [hH]
      refine zkj L 0 _ _ rfl fun j x hj hgx => ?_
      rw [Nat.zero_add]
      rcases Nat.lt_trichotomy j i with h | h | h
      · have hd:decide (j < i)=true:=by simpa using h
        rw [hd]
        cases hb:befB (ancL ops ops.size) j i with
        | true=>exact zor inv.closed hp _ j (zfh hb).choose_spec
        | false=>exact absurd hg ((pair h hj hr hb).1 g hgx).1
      · subst h
        have hd:decide (j < j)=false:=by simp
        rw [hd]; exact hl
      · have hd:decide (j < i)=false:=by simp; omega
        rw [hd]
        cases hb:befB (ancL ops ops.size) i j with
        | true =>
          cases hx:lsOf listed j with
          | false=>rfl
          | true =>
            have:=zfg inv.closed _ i j (zfh hb).choose_spec hx
            rw [hl] at this; cases this
        | false=>exact absurd hg (((pair h hr hj hb).2.resolve_right fun ⟨g,q,e,_⟩=>hnp ⟨g,q,e⟩) g hgx)
    have hcell : ∀ g q,r.pt=some (.ptr g q)→r.rd=[g]→zff (r.H g) q r.v→zff (hD (lsOf listed) L 0 H0 g) q r.v:=by
      intro g q hpt hrd hc
      rw [hH] at hc
      have:=zvw (ls:=lsOf listed) (ls':=fun x=>decide (x < i)) (g:=g) (φ:=fun o=>zff o q r.v) L 0 H0 H0 (.inl rfl) fun j x hj hgx => ?_
      · rcases this with e | e
        · rw [e]; exact hc
        · exact e
      · rw [Nat.zero_add]
        rcases Nat.lt_trichotomy j i with h | h | h
        · have hd:decide (j < i)=true:=by simpa using h
          rw [hd]
          cases hb:befB (ancL ops ops.size) j i with
          | true=>exact .inl (zor inv.closed hp _ j (zfh hb).choose_spec)
          | false=>exact absurd (by rw [hrd]; simp) ((pair h hj hr hb).1 g hgx).1
        · subst h
          have hd:decide (j < j)=false:=by simp
          rw [hd]; exact .inl hl
        · have hd:decide (j < i)=false:=by simp; omega
          rw [hd]
          cases hb:befB (ancL ops ops.size) i j with
          | true =>
            cases hx:lsOf listed j with
            | false=>exact .inl rfl
            | true =>
              have:=zfg inv.closed _ i j (zfh hb).choose_spec hx
              rw [hl] at this; cases this
          | false =>
            rcases (pair h hr hj hb).2 with h1 | ⟨g',q',h1,h2⟩
            · exact absurd (by rw [hrd]; simp) (h1 g hgx)
            · rw [hpt] at h1
              cases h1
              exact .inr ⟨rfl,zop h2 hgx⟩
    have hslot:∀ t∈o.looksAt ops,eD (lsOf listed) ops.toList L 0 env0 t=r.env t:=by
      intro t ht
      rw [henv]
      by_cases hw:∃ (j:Nat) (o':Oper),ops[j]? = some o'∧o'.dst=some t
      · obtain ⟨j,o',ho',hd⟩:=hw
        have hj:=(Array.getElem?_eq_some_iff.1 ho').1
        have hx:L[j]? = some (L[j]'(by omega)):=List.getElem?_eq_getElem (by omega)
        rw [zhp _ _ 0 j o' _ env0 (hops ho') hx hd (uniq ho' hd),zhp _ _ 0 j o' _ env0 (hops ho') hx hd (uniq ho' hd),Nat.zero_add]
        have hwr:=((zcy hok ho').2.1 t hd).1
        rcases hp4 t ht j hwr with h | h
        · have h1:=hp j h
          have h2:=hp1 j h
          have hd':decide (j < i)=true:=by simpa using h2
          rw [hd']; rw [show lsOf listed j=true from h1]
        · have h2:=(zcy hok ho').1 i h
          have hd':decide (j < i)=false:=by simp; omega
          rw [hd']
          cases hxl:lsOf listed j with
          | false=>rfl
          | true =>
            have:=inv.closed j hxl i h
            rw [hl] at this; cases this
      · have hno:∀ o∈ops.toList,o.dst ≠ some t:=fun o ho e=>hw (by
          obtain ⟨i,hi⟩:=List.getElem?_of_mem ho
          exact ⟨i,o,by simpa using hi,e⟩)
        rw [zfx _ _ _ _ hno,zfx _ _ _ _ hno]
    have hfresh:∀ g∈r.fr,¬ AD B L (lsOf listed) g:=by
      intro g hg hA
      obtain ⟨e1,e2⟩:=hfr hr g hg
      have hi:=(List.getElem?_eq_some_iff.1 hr).1
      rcases hA with h | ⟨j,x,h1,h2,h3⟩
      · have h0:=hNmono 0 i (by omega) (by omega)
        have h4:=hNmono (i+1) L.length (by omega) (by omega)
        rw [hN0] at h0
        rw [hlen,hNl] at h4
        exact hBf g (by omega) (by omega) h
      · obtain ⟨d1,d2⟩:=hfr h2 g h3
        have hji:j ≠ i:=by intro e; subst e; rw [show lsOf listed j=listed.getD j false from rfl,hl] at h1; cases h1
        have hjl:=(List.getElem?_eq_some_iff.1 h2).1
        rcases Nat.lt_or_ge j i with h | h
        · have:=hNmono (j+1) i (by omega) (by omega); omega
        · have:=hNmono (i+1) j (by omega) (by omega); omega
    have step : ∀ (ρ':Nat→Loc) (cv:Value) (w':World),Sim (fun x=>AD B L (lsOf listed) x∨x∈r.fr) ρ' ((hD (lsOf listed) L 0 H0).apply r.D) w' →
        VRel (Kof ρ' ((hD (lsOf listed) L 0 H0).apply r.D) w') ρ' (fun x=>AD B L (lsOf listed) x∨x∈r.fr) r.v cv →
        Fr (AD B L (lsOf listed)) ρ (hD (lsOf listed) L 0 H0) w (fun x=>AD B L (lsOf listed) x∨x∈r.fr) ρ' ((hD (lsOf listed) L 0 H0).apply r.D) w' →
        wpAny P .any ops Q fuel (listed.setIfInBounds i true) (a.put o.dst cv) w':=by
      intro ρ' cv w' q1 q2 q3
      refine ih _ _ _ ⟨by simp [inv.sz],fun j hj k hk => ?_,?_,?_,ρ',?_,?_,fun t => ?_⟩ ?_
      · rw [zdz hil] at hj ⊢
        by_cases hji:j=i
        · subst hji; have:=hp k hk; split
          · rfl
          · exact this
        · rw [if_neg hji] at hj
          have:=inv.closed j hj k hk
          split
          · rfl
          · exact this
      · cases o.dst <;> simp [Act.put,inv.tsz]
      · cases o.dst <;> simp [Act.put,inv.defers]
      · rw [zus hil hr hl,hHadd]; exact q1
      · rw [zus hil hr hl,hHadd]; exact f.trans q3
      · rw [zus hil hr hl,hHadd]
        rw [zsi a o.dst t cv (fun t ht=>by rw [inv.tsz]; exact (hp2 t ht).2)]
        by_cases hd:o.dst=some t
        · rw [if_pos hd,zhp _ _ 0 i o r env0 (hops ho) hr hd (uniq ho hd),Nat.zero_add]
          have:lsOf (listed.setIfInBounds i true) i=true:=by simp only [lsOf]; rw [zdz hil,if_pos rfl]
          rw [this]; exact q2
        · rw [if_neg hd]
          have e : eD (lsOf (listed.setIfInBounds i true)) ops.toList L 0 env0 t=eD (lsOf listed) ops.toList L 0 env0 t:=by
            by_cases hw:∃ (j:Nat) (o':Oper),ops[j]? = some o'∧o'.dst=some t
            · obtain ⟨j,o',ho',hd'⟩:=hw
              have hj:=(Array.getElem?_eq_some_iff.1 ho').1
              have hx:L[j]? = some (L[j]'(by omega)):=List.getElem?_eq_getElem (by omega)
              rw [zhp _ _ 0 j o' _ env0 (hops ho') hx hd' (uniq ho' hd'),zhp _ _ 0 j o' _ env0 (hops ho') hx hd' (uniq ho' hd'),Nat.zero_add]
              have hji:j ≠ i:=by intro e; subst e; rw [ho] at ho'; obtain rfl:=Option.some.inj ho'; exact hd hd'
              have:lsOf (listed.setIfInBounds i true) j=lsOf listed j:=by simp only [lsOf]; rw [zdz hil,if_neg hji]
              rw [this]
            · have hno:∀ o∈ops.toList,o.dst ≠ some t:=fun o ho e=>hw (by
                obtain ⟨i,hi⟩:=List.getElem?_of_mem ho
                exact ⟨i,o,by simpa using hi,e⟩)
              rw [zfx _ _ _ _ hno,zfx _ _ _ _ hno]
          rw [e]
          exact (hv t).mono q3.k q3.agree
      · have hfil:((List.range ops.size).filter fun k=>!(listed.setIfInBounds i true).getD k false).length < ((List.range ops.size).filter fun k=>!listed.getD k false).length:=by
          have e:((List.range ops.size).filter fun k=>!(listed.setIfInBounds i true).getD k false)=(((List.range ops.size).filter fun k=>!listed.getD k false).filter fun k=>decide (k ≠ i)):=by
            rw [List.filter_filter]
            refine List.filter_congr fun k _ => ?_
            rw [zdz hil]
            by_cases hk:k=i
            · subst hk; simp
            · rw [if_neg hk]; simp [hk]
          rw [e]
          refine List.length_filter_lt_length_iff_exists.2 ⟨i,?_,by simp⟩
          rw [List.mem_filter]
          exact ⟨List.mem_range.2 his,by rw [hl]; rfl⟩
        omega
    simp only [wpOp,ho]
    obtain ⟨hf1,hf2,hf3⟩:=hfact
    have hguard:∀ (j:Nat) (want:Bool) (t:Nat),o.guard=some (j,want)→gdst ops.toList j=some t→VRel (Kof ρ (hD (lsOf listed) L 0 H0) w) ρ (AD B L (lsOf listed)) (r.env t) (a.tmps.getD t undef) ∧
        Region.wanted o (yielded ops a.tmps)=(match a.tmps.getD t undef with | .bool b=>b == want | _=>false):=by
      intro j want t hg ht
      have e:(ops[j]?).bind (·.dst)=some t:=by unfold gdst at ht; simpa using ht
      have hmem:t∈o.looksAt ops:=by
        unfold Oper.looksAt
        rw [hg]
        simp [e]
      refine ⟨by rw [← hslot t hmem]; exact hv t,?_⟩
      have hy:=zqn ht a
      have htN:t < N:=by
        obtain ⟨o',ho',hd⟩:=Option.bind_eq_some_iff.1 e
        exact ((zcy hok ho').2.1 t hd).2
      have hget:a.tmps[t]? = some (a.tmps.getD t undef):=by simp [Array.getD,inv.tsz,htN]
      rw [hget] at hy
      have hwant:Region.wanted o (yielded ops a.tmps)=(yielded ops a.tmps j == some want):=by simp [Region.wanted,hg]
      rw [hwant,hy]
      cases a.tmps.getD t undef <;> rfl
    cases hsk:r.skip with
    | true =>
      rw [hsk,if_pos rfl] at hf3
      obtain ⟨_,h1,h2,h3,h4,j,want,t,hg,ht,hor⟩:=hf3
      obtain ⟨g1,g2⟩:=hguard j want t hg ht
      have hw:Region.wanted o (yielded ops a.tmps)=false:=by
        rw [g2]
        rcases hor with h | h <;> rw [h] at g1 <;> generalize a.tmps.getD t undef=tv at g1 <;> cases g1
        · rfl
        · simp
      rw [hw]
      simp only [Bool.false_eq_true,if_false]
      refine step ρ undef w ?_ ?_ ?_
      · rw [h3,h4,zbr]; exact s
      · rw [h1]; exact .und
      · rw [h3,h4,zbr]; exact Fr.refl _ _ _ _
    | false =>
      rw [hsk,if_neg (by simp)] at hf3
      obtain ⟨heff,hsoft,hg⟩:=hf3
      have hw:Region.wanted o (yielded ops a.tmps)=true:=by
        rcases hg with hg | ⟨j,want,t,hg,ht,hb⟩
        · simp [Region.wanted,hg]
        · obtain ⟨g1,g2⟩:=hguard j want t hg ht
          rw [g2]
          rw [hb] at g1
          generalize a.tmps.getD t undef=tv at g1
          cases g1
          simp
      rw [hw]
      simp only [if_true]
      have hops':∀ x∈o.op.operands.toList,VRel (Kof ρ (hD (lsOf listed) L 0 H0) w) ρ (AD B L (lsOf listed)) (r.env.ev x) (a.eval x):=by
        intro x hx
        cases x with
        | tmp t =>
          have hmem:t∈o.looksAt ops:=by
            unfold Oper.looksAt
            rw [List.mem_append]
            left
            rw [List.mem_filterMap]
            exact ⟨.tmp t,hx,rfl⟩
          show VRel _ _ _ (r.env t) _
          rw [← hslot t hmem]
          exact hv t
        | const v=>exact zqp _ _ _ v
        | global g=>exact .junk _
        | func f=>exact .clo f [] #[] rfl fun j v c hv=>by simp at hv
      by_cases hnp:∃ g q,r.pt=some (.ptr g q)
      · obtain ⟨g,q,hpt⟩:=hnp
        obtain ⟨e1,e2,e3,hc,hany⟩:=hsoft g q hpt
        have:=hany _ (hcell g q hpt e1 hc) _ ρ _ w a.eval (hADb _) s hops' (fun _ _=>rfl) (by simp)
        rw [← e2,← e3] at this
        exact .inl (zmr this fun cv w' ⟨ρ',q1,q2,q3⟩=>step ρ' cv w' q1 q2 q3)
      · exact .inl (zmr (heff _ ρ _ w a.eval (hADb _) s hops' (hrdeq hnp) hfresh) fun cv w' ⟨ρ',q1,q2,q3⟩=>step ρ' cv w' q1 q2 q3)
end
end Go.Proofs.YtpllgpgdcbgalaaDoor
set_option maxRecDepth 8000
namespace Go.Proofs.YtpllgpgdcbgalaaDoor
open Go Go.RowKit
section
variable (P:Program) (T:Nat→Option AT) (eqs:Nat→Bool)
def zea:Code→Nat
  | .region id _ _=>id
  | .seq a _=>zea a
  | .cond _ a _=>zea a
  | .block _ a=>zea a
  | .loop a=>zea a
  | .scope a=>zea a
  | _=>100000
variable (lv:Nat→Nat→Option (List Nat))
def join (L:Option (List Nat)) (J:K3) (B:K3→K3):K3:=match L with
  | none=>B J
  | some L=>fun env H nx=>JN (fun xs H nx=>J (zkw L xs) H nx) fun j=>B (fun env H nx=>j (L.map env) H nx) env H nx
def lvL (L:Option (List Nat)):List Nat:=match L with
  | none=>[]
  | some L=>L
def adr (ops:Array Oper) (K:K3):K3:=fun env H nx=>dops P T eqs ops.toList ops.toList [] env H nx [] fun env H nx log=>zni log (K env H nx) (zrg ops)
def zwx (c:Operand) (b:Bool) (env:Env):Env:=match c with
  | .tmp t=>env.put t (.bool b)
  | _=>env
theorem St.know {N:Nat} {env:Env} {H:Heap} {nx:Nat} {ρ:Nat→Loc} {w:World} {a:Act} (h:St N env H nx ρ w a) {c:Operand} {b:Bool} (hc:a.eval c=.bool b):St N (zwx c b env) H nx ρ w a:=by
  cases c with
  | tmp t =>
    refine ⟨h.sim,fun u => ?_,h.size,h.defers⟩
    have:=zhb env (some t) (.bool b) u
    simp only [Env.putO] at this
    show VRel _ _ _ (env.put t (.bool b) u) _
    rw [this]
    split
    · rename_i e; cases e
      have e:a.tmps.getD t undef=.bool b:=hc
      rw [e]; exact .bool b
    · exact h.env u
  | const v=>exact h
  | global g=>exact h
  | func f=>exact h
def aw:Code→K3→(Nat→K3)→K3→K3
  | .skip,kn,_,_=>kn
  | .label _,kn,_,_=>kn
  | .region id ops false,kn,_,_=>join (lv 0 id) kn fun K=>aops P T eqs ops.toList ops.toList [] K
  | .region id ops true,kn,_,_=>join (lv 0 id) kn fun K=>adr P T eqs ops K
  | .seq a b,kn,kx,kr=>join (lv 3 (zea b)) (aw b kn kx kr) fun K=>aw a K kx kr
  | .cond c a b,kn,kx,kr=>fun env H nx=>CNDC (env.ev c) (aw a kn kx kr (zwx c true env) H nx) (aw b kn kx kr (zwx c false env) H nx)
  | .block id a,kn,kx,kr=>join (lv 1 id) kn fun K=>aw a K (fun i=>bif Nat.beq i id then K else kx i) kr
  | .loop a,_,kx,kr=>fun env H nx=>LP (fun K xs H nx=>aw a (fun env H nx=>K ((lvL (lv 2 (zea a))).map env) H nx) kx kr (zkw (lvL (lv 2 (zea a))) xs) H nx) ((lvL (lv 2 (zea a))).map env) H nx
  | .exit i,_,kx,_=>kx i
  | .ret,_,_,kr=>kr
  | .scope a,kn,kx,kr=>aw a kn kx kr
  | _,_,_,_=>fun _ _ _=>False
end
def wfC (N:Nat):Code→Bool
  | .region _ ops drawn=>zmd N ops.toList && (!drawn || zog ops N)
  | .seq a b=>wfC N a && wfC N b
  | .cond _ a b=>wfC N a && wfC N b
  | .block _ a=>wfC N a
  | .loop a=>wfC N a
  | .scope a=>wfC N a
  | _=>true
section
variable {P:Program} {T:Nat→Option AT} {eqs:Nat→Bool} (hT:TOk P T) (hE:EOk P T eqs) {lv:Nat→Nat→Option (List Nat)} {N:Nat}
variable (nx0:Nat) (ρ0:Nat→Loc) (H0:Heap) (w0:World)
def RS (N:Nat) (K:K3) (a:Act) (w:World):Prop:=∃ env H nx ρ,K env H nx∧St N env H nx ρ w a∧Fr (· < nx0) ρ0 H0 w0 (· < nx) ρ H w
def QS (N:Nat) (kn:K3) (kx:Nat→K3) (kr:K3):Exit→Act→World→Prop
  | .normal,a,w=>RS nx0 ρ0 H0 w0 N kn a w
  | .exit i,a,w=>RS nx0 ρ0 H0 w0 N (kx i) a w
  | .ret,a,w=>RS nx0 ρ0 H0 w0 N kr a w
  | _,_,_=>False
include hT hE in
theorem zjh {all:Array Oper} {kn':K3} {kx:Nat→K3} {kr:K3}:∀ (rest:List Oper) (kn:zcg) (env:Env) (H:Heap) (nx:Nat),zmd N rest=true→(∀ t,(∃ o∈all.toList,o.dst=some t)→t < N)→aops P T eqs all.toList rest kn kn' env H nx→KnOk kn env →
    ∀ (ρ:Nat→Loc) (w:World) (a:Act),St N env H nx ρ w a→Fr (· < nx0) ρ0 H0 w0 (· < nx) ρ H w→wpList P all (QS nx0 ρ0 H0 w0 N kn' kx kr) rest a w
  | [],kn,env,H,nx,_,_,h,_,ρ,w,a,st,f=>wpList_nil ⟨env,H,nx,ρ,h,st,f⟩
  | o :: r, kn, env,H,nx,hd,hall,h,hkn,ρ,w,a,st,f=>by
    simp only [zmd,Bool.and_eq_true] at hd
    have hdo:∀ t,o.dst=some t→t < N:=fun t ht=>by have:=hd.1; rw [ht] at this; simpa using this
    have run:∀ (kn1:zcg) (env1:Env),KnOk kn1 env1→St N env1 H nx ρ w a→znk P T eqs o env1 H nx (fun v H nx=>aops P T eqs all.toList r (zei o.dst kn1) kn' (env1.putO o.dst v) H nx)→Region.wanted o (yielded all a.tmps)=true →
        wpList P all (QS nx0 ρ0 H0 w0 N kn' kx kr) (o :: r) a w:=by
      intro kn1 env1 hk1 st1 hs hw
      refine wpList_step fun K hK => ?_
      rw [if_pos hw]
      refine zmr (zvj hT hE hs st1) fun cv w' ⟨v,H',nx',ρ',q1,q2,q3,q4⟩=>hK _ _ ?_
      exact zjh r _ _ H' nx' hd.2 hall q1 (hk1.drop o.dst v) ρ' w' _ (st1.put q2 q4 hdo q3) (f.trans q4)
    have skip:∀ (kn1:zcg) (env1:Env),KnOk kn1 env1→St N env1 H nx ρ w a→aops P T eqs all.toList r (zfk o.dst kn1) kn' (env1.putO o.dst .und) H nx→Region.wanted o (yielded all a.tmps)=false →
        wpList P all (QS nx0 ρ0 H0 w0 N kn' kx kr) (o :: r) a w:=by
      intro kn1 env1 hk1 st1 hs hw
      refine wpList_step fun K hK => ?_
      rw [if_neg (by rw [hw]; simp)]
      exact hK _ _ (zjh r _ _ H nx hd.2 hall hs (hk1.skip o.dst) ρ w _ (st1.put st1.sim (Fr.refl _ _ _ _) hdo .und) f)
    simp only [aops] at h
    split at h
    · rename_i hg
      exact run kn env hkn st h (by simp [Region.wanted,hg])
    · rename_i j want hg
      split at h
      · exact h.elim
      · rename_i t ht
        have hy:=zqn ht a
        have htN:t < N:=by
          obtain ⟨o',ho',hdst⟩:=Option.bind_eq_some_iff.1 ht
          exact hall t ⟨o',List.mem_of_getElem? ho',hdst⟩
        have hget:a.tmps[t]? = some (a.tmps.getD t undef):=by simp [Array.getD,st.size,htN]
        rw [hget] at hy
        have hwant:Region.wanted o (yielded all a.tmps)=(yielded all a.tmps j == some want):=by simp [Region.wanted,hg]
        have hbool:∀ b,env t=.bool b→Region.wanted o (yielded all a.tmps)=(b == want):=by
          intro b hb
          have:=st.env t
          rw [hb] at this
          generalize a.tmps.getD t undef=tv at this hy
          cases this
          rw [hwant,hy]; simp
        split at h
        · rename_i hk
          have hu:=hkn t none (zhn hk)
          simp only at hu
          refine skip kn env hkn st h ?_
          have:=st.env t
          rw [hu] at this
          generalize a.tmps.getD t undef=tv at this hy
          cases this
          rw [hwant,hy]; rfl
        · rename_i b hk
          have hb:=hkn t (some b) (zhn hk)
          simp only at hb
          cases hbw:(b == want) with
          | true=>rw [hbw] at h; exact run kn env hkn st h (by rw [hbool b hb,hbw])
          | false=>rw [hbw] at h; exact skip kn env hkn st h (by rw [hbool b hb,hbw])
        · obtain ⟨b,hb,h1,h2⟩:=zsn h
          · cases b with
            | true =>
              have h:=h1 rfl
              have hk2:=hkn.know hb
              have he:=zqe hb
              rw [he] at hk2 h
              cases want with
              | true=>exact run _ env hk2 st h (by rw [hbool _ hb]; rfl)
              | false=>exact skip _ env hk2 st h (by rw [hbool _ hb]; rfl)
            | false =>
              have h:=h2 rfl
              have hk2:=hkn.know hb
              have he:=zqe hb
              rw [he] at hk2 h
              cases want with
              | true=>exact skip _ env hk2 st h (by rw [hbool _ hb]; rfl)
              | false=>exact run _ env hk2 st h (by rw [hbool _ hb]; rfl)
theorem zue {all:List Oper} (h:zmd N all=true):∀ t,(∃ o∈all,o.dst=some t)→t < N:=by
  induction all with
  | nil=>rintro t ⟨o,ho,_⟩; cases ho
  | cons x r ih =>
    simp only [zmd,Bool.and_eq_true] at h
    rintro t ⟨o,ho,hd⟩
    rcases List.mem_cons.1 ho with rfl | ho
    · have:=h.1; rw [hd] at this; simpa using this
    · exact ih h.2 t ⟨o,ho,hd⟩
theorem RS.mono {K K':K3} {a:Act} {w:World} (h:RS nx0 ρ0 H0 w0 N K a w) (hk:∀ env H nx,K env H nx→K' env H nx):RS nx0 ρ0 H0 w0 N K' a w:=by
  obtain ⟨env,H,nx,ρ,h1,h2,h3⟩:=h
  exact ⟨env,H,nx,ρ,hk _ _ _ h1,h2,h3⟩
theorem RS.join {L:List Nat} {I:J3} {J:K3} (hI:∀ xs H nx,I xs H nx→J (zkw L xs) H nx) {a:Act} {w:World} (h:RS nx0 ρ0 H0 w0 N (fun env H nx=>I (L.map env) H nx) a w):RS nx0 ρ0 H0 w0 N J a w:=by
  obtain ⟨env,H,nx,ρ,h1,h2,h3⟩:=h
  exact ⟨zkw L (L.map env),H,nx,ρ,hI _ _ _ h1,h2.weak (zok env L),h3⟩
theorem zaff (p:Nat→Prop):∀ n,p n→∃ m,p m∧∀ k,p k→m≤k:=by
  intro n
  induction n using Nat.strongRecOn with
  | _ n ih =>
    intro h
    by_cases hk:∃ k,k < n∧p k
    · obtain ⟨k,h1,h2⟩:=hk
      exact ih k h1 h2
    · exact ⟨n,h,fun k hp=>by
        rcases Nat.lt_or_ge k n with hl | hl
        · exact absurd ⟨k,hl,hp⟩ hk
        · exact hl⟩
open Classical in
noncomputable def zoy (p:Nat→Prop):Nat:=if h:∃ m,p m∧∀ k,p k→m≤k then Classical.choose h else 0
theorem zoe {p:Nat→Prop} {n:Nat} (h:p n):p (zoy p)∧zoy p≤n:=by
  have he:=zaff p n h
  unfold zoy
  rw [dif_pos he]
  exact ⟨(Classical.choose_spec he).1,(Classical.choose_spec he).2 n h⟩
theorem zlb.le {all:List Oper}:∀ {os:List Oper} {L:List Rec} {env:Env} {H:Heap} {nx:Nat} {env':Env} {H':Heap} {nx':Nat},zlb P all os L env H nx env' H' nx'→nx≤nx'
  | [],[],_,_,_,_,_,_,⟨_,_,h⟩=>by omega
  | [],_ :: _,_,_,_,_,_,_,h=>h.elim
  | _ :: _,[],_,_,_,_,_,_,h=>h.elim
  | _ :: _,_ :: _,_,_,_,_,_,_,⟨_,_,_,h⟩=>by have:=h.le; omega
include hT hE in
theorem zsr (hM:P.follows .mixedOrders=true) {id:Nat} {ops:Array Oper} (hok:zog ops N=true) {K:K3} {env:Env} {H:Heap} {nx:Nat} (h:adr P T eqs ops K env H nx) {ρ:Nat→Loc} {w:World} {a:Act} (st:St N env H nx ρ w a)
    (f:Fr (· < nx0) ρ0 H0 w0 (· < nx) ρ H w) {Q:Exit→Act→World→Prop} (hQ:∀ a w,RS nx0 ρ0 H0 w0 N K a w→Q .normal a w):(Code.region id ops true).wp P Q a w:=by
  obtain ⟨L,env',H',nx',hch,hK⟩:=znh hT hE _ _ _ _ _ _ (fun t b hm=>by cases hm) h
  rw [List.nil_append] at hK
  obtain ⟨hco,hK⟩:=(zsm _).1 hK
  have hfalse:∀ i,(Array.replicate ops.size false).getD i false=false:=fun i=>by
    simp only [Array.getD]
    split <;> simp
  have hls:lsOf (Array.replicate ops.size false)=fun _=>false:=funext hfalse
  have hA:AD (· < nx) L (fun _=>false)=(· < nx):=by
    funext g; simp [AD]
  have hle:nx≤nx':=hch.le
  have hA2:(fun g=>g < nx∨nx≤g∧g < nx')=(fun g=>g < nx'):=by funext g; simp; omega
  refine wp_region_any hM (zut (B:=(· < nx)) (ρ0:=ρ) (w0:=w) hok hch hco (fun g h1 _ (h2:g < nx)=>by omega) ⟨nx,fun g h=>h⟩ (fun a' w' ρ' s' v' t' d' f' => ?_) _ _ _ _ ⟨by simp,(fun i hi=>by rw [hfalse] at hi; cases hi),st.size,st.defers,ρ,?_,?_,?_⟩ ?_)
  · rw [hA2] at s' v' f'
    exact hQ a' w' ⟨env',H',nx',ρ',hK,⟨s',v',t',d'⟩,f.trans f'⟩
  · have e:({ w with drawn:=w.drawn+1 }:World).heap=w.heap:=rfl
    rw [hls,hA,zrc.hD_none]
    exact st.sim.heap e
  · have e:({ w with drawn:=w.drawn+1 }:World).heap=w.heap:=rfl
    rw [hls,hA,zrc.hD_none]
    exact ⟨fun g hg=>⟨rfl,hg⟩,fun b o hb=>by rw [zhf e]; exact hb,rfl,rfl,rfl,Nat.le_refl _⟩
  · intro t
    have e:({ w with drawn:=w.drawn+1 }:World).heap=w.heap:=rfl
    rw [hls,hA,zrc.hD_none,zhf e]
    have:eD (fun _=>false) ops.toList L 0 env t=env t:=by
      rw [zqm.eD_off _ _ _ _ fun _ _=>rfl]
    rw [this]
    exact st.env t
  · exact Nat.le_trans (List.length_filter_le _ _) (by simp)
include hT hE in
theorem zcf (hM:P.follows .mixedOrders=true):∀ (c:Code) (kn:K3) (kx:Nat→K3) (kr:K3),wfC N c=true→∀ (a:Act) (w:World),RS nx0 ρ0 H0 w0 N (aw P T eqs lv c kn kx kr) a w→c.wp P (QS nx0 ρ0 H0 w0 N kn kx kr) a w
  | .skip,kn,kx,kr,_,a,w,h=>wp_skip h
  | .label _,kn,kx,kr,_,a,w,h=>wp_label h
  | .exit i,kn,kx,kr,_,a,w,h=>wp_exit h
  | .ret,kn,kx,kr,_,a,w,h=>wp_ret h
  | .scope c,kn,kx,kr,hwf,a,w,h=>by
    refine wp_scope_straight (Code.wp_mono (fun e a w q => ?_) (zcf hM c kn kx kr hwf a w h))
    cases e <;> first | exact q | exact q.elim
  | .region id ops false,kn,kx,kr,hwf,a,w,h=>by
    simp only [aw] at h
    simp only [wfC,Bool.not_false,Bool.true_or,Bool.and_true] at hwf
    cases hg:lv 0 id with
    | none =>
      rw [hg] at h
      obtain ⟨env,H,nx,ρ,h1,h2,h3⟩:=h
      exact wp_region_list (zjh hT hE nx0 ρ0 H0 w0 ops.toList [] env H nx hwf (zue hwf) h1 (fun t b hm=>by cases hm) ρ w a h2 h3)
    | some L =>
      rw [hg] at h
      obtain ⟨env,H,nx,ρ,⟨I,hI,h1⟩,h2,h3⟩:=h
      have:=wp_region_list (id:=id) (zjh (kx:=kx) (kr:=kr) hT hE nx0 ρ0 H0 w0 ops.toList [] env H nx hwf (zue hwf) h1 (fun t b hm=>by cases hm) ρ w a h2 h3)
      refine Code.wp_mono (fun e a w q => ?_) this
      cases e <;> first | exact q.elim | exact RS.join nx0 ρ0 H0 w0 hI q | exact q
  | .seq x y,kn,kx,kr,hwf,a,w,h=>by
    simp only [wfC,Bool.and_eq_true] at hwf
    refine wp_seq ?_
    simp only [aw] at h
    cases hb:lv 3 (zea y) with
    | none =>
      rw [hb] at h
      refine Code.wp_mono (fun e a w q => ?_) (zcf hM x (aw P T eqs lv y kn kx kr) kx kr hwf.1 a w h)
      cases e <;> first | exact q | exact q.elim | exact zcf hM y kn kx kr hwf.2 _ _ q
    | some L =>
      rw [hb] at h
      obtain ⟨env,H,nx,ρ,⟨I,hI,h1⟩,h2,h3⟩:=h
      refine Code.wp_mono (fun e a w q => ?_) (zcf hM x (fun env H nx=>I (L.map env) H nx) kx kr hwf.1 a w ⟨env,H,nx,ρ,h1,h2,h3⟩)
      cases e <;> first | exact q | exact q.elim | exact zcf hM y kn kx kr hwf.2 _ _ (RS.join nx0 ρ0 H0 w0 hI q)
  | .cond c x y,kn,kx,kr,hwf,a,w,h=>by
    simp only [wfC,Bool.and_eq_true] at hwf
    obtain ⟨env,H,nx,ρ,h1,h2,h3⟩:=h
    simp only [aw] at h1
    obtain ⟨b,hc,h1⟩:=zxm h1 (h2.ev c)
    · refine wp_cond hc ?_
      cases b with
      | true=>exact zcf hM x kn kx kr hwf.1 a w ⟨_,H,nx,ρ,h1.1 rfl,h2.know hc,h3⟩
      | false=>exact zcf hM y kn kx kr hwf.2 a w ⟨_,H,nx,ρ,h1.2 rfl,h2.know hc,h3⟩
  | .block id x,kn,kx,kr,hwf,a,w,h=>by
    refine wp_block ?_
    simp only [aw] at h
    cases hb:lv 1 id with
    | none =>
      rw [hb] at h
      refine Code.wp_mono (fun e a w q => ?_) (zcf hM x kn (fun i=>bif Nat.beq i id then kn else kx i) kr hwf a w h)
      cases e <;> first | exact q | exact q.elim | skip
      rename_i i
      simp only [Exit.inBlock]
      simp only [QS] at q
      by_cases hi:i=id
      · subst hi; rw [if_pos rfl]; simpa [QS] using q
      · have:Nat.beq i id=false:=by rw [← Bool.not_eq_true,Nat.beq_eq]; exact hi
        rw [if_neg hi]; rw [this] at q; exact q
    | some L =>
      rw [hb] at h
      obtain ⟨env,H,nx,ρ,⟨I,hI,h1⟩,h2,h3⟩:=h
      refine Code.wp_mono (fun e a w q => ?_) (zcf hM x (fun env H nx=>I (L.map env) H nx) (fun i=>bif Nat.beq i id then (fun env H nx=>I (L.map env) H nx) else kx i) kr hwf a w ⟨env,H,nx,ρ,h1,h2,h3⟩)
      cases e <;> first | exact q.elim | skip
      case normal=>exact RS.join nx0 ρ0 H0 w0 hI q
      case ret=>exact q
      case exit i =>
        simp only [Exit.inBlock]
        simp only [QS] at q
        by_cases hi:i=id
        · subst hi; rw [if_pos rfl]
          have q':RS nx0 ρ0 H0 w0 N (fun env H nx=>I (L.map env) H nx) a w:=by simpa using q
          exact RS.join nx0 ρ0 H0 w0 hI q'
        · have:Nat.beq i id=false:=by rw [← Bool.not_eq_true,Nat.beq_eq]; exact hi
          rw [if_neg hi]; rw [this] at q; exact q
  | .loop x,kn,kx,kr,hwf,a,w,h=>by
    obtain ⟨env,H,nx,ρ,⟨I,n,h0,hstep⟩,h2,h3⟩:=h
    let L:=lvL (lv 2 (zea x))
    let Rn:Nat→Act→World→Prop:=fun n a w=>∃ xs H nx ρ,I n xs H nx∧St N (zkw L xs) H nx ρ w a∧Fr (· < nx0) ρ0 H0 w0 (· < nx) ρ H w
    have hR0:∃ n,Rn n a w:=⟨n,_,H,nx,ρ,h0,h2.weak (zok env L),h3⟩
    refine wp_loop (fun a w=>∃ n,Rn n a w) (fun a w=>zoy fun n=>Rn n a w) hR0 fun a w hI => ?_
    obtain ⟨n1,hn1⟩:=hI
    have hn:=(zoe (p:=fun n=>Rn n a w) hn1).1
    obtain ⟨xs,H,nx,ρ,q1,q2,q3⟩:=hn
    have hb:=hstep _ xs H nx q1
    refine Code.wp_mono (fun e a' w' q => ?_) (zcf hM x _ kx kr hwf a w ⟨zkw L xs,H,nx,ρ,hb,q2,q3⟩)
    cases e <;> first | exact q | exact q.elim | skip
    obtain ⟨env',H',nx',ρ',⟨m,hm,hIm⟩,r2,r3⟩:=q
    have hRm:Rn m a' w':=⟨_,H',nx',ρ',hIm,r2.weak (zok env' L),r3⟩
    refine ⟨⟨m,hRm⟩,?_⟩
    exact Nat.lt_of_le_of_lt (zoe (p:=fun n=>Rn n a' w') hRm).2 hm
  | .region id ops true,kn,kx,kr,hwf,a,w,h=>by
    simp only [aw] at h
    simp only [wfC,Bool.not_true,Bool.false_or,Bool.and_eq_true] at hwf
    cases hg:lv 0 id with
    | none =>
      rw [hg] at h
      obtain ⟨env,H,nx,ρ,h1,h2,h3⟩:=h
      exact zsr hT hE nx0 ρ0 H0 w0 hM hwf.2 h1 h2 h3 fun a w h=>h
    | some L =>
      rw [hg] at h
      obtain ⟨env,H,nx,ρ,⟨I,hI,h1⟩,h2,h3⟩:=h
      exact zsr hT hE nx0 ρ0 H0 w0 hM hwf.2 h1 h2 h3 fun a w h=>RS.join nx0 ρ0 H0 w0 hI h
  | .rangeFunc _ _ _ _,_,_,_,_,_,_,⟨_,_,_,_,h,_,_⟩=>h.elim
  | .goto _,_,_,_,_,_,_,⟨_,_,_,_,h,_,_⟩=>h.elim
  | .refuse _,_,_,_,_,_,_,⟨_,_,_,_,h,_,_⟩=>h.elim
end
end Go.Proofs.YtpllgpgdcbgalaaDoor
set_option maxRecDepth 8000
namespace Go.Proofs.YtpllgpgdcbgalaaDoor
open Go Go.RowKit
section
variable (T:Nat→Option AT)
def aret:List ResultVar→Env→Heap→(List AV→Prop)→Prop
  | [],_,_,k=>k []
  | .tmp t :: r,env,H,k=>aret r env H fun vs=>k (env t :: vs)
  | .cell a t :: r,env,H,k=>match T t with
    | some at_=>LOAD at_.kind.isAgg at_.size (env a) H fun v _ _ _=>aret r env H fun vs=>k (v :: vs)
    | none=>False
end
def RET1 (vs:List AV) (k:AV→Prop):Prop:=match vs with
  | [v]=>k v
  | vs=>k (.tup vs)
def env0 (args:List AV):Env:=fun t=>nth args t
def lvOf:List (Nat×Nat×List Nat)→Nat→Nat→Option (List Nat)
  | [],_,_=>none
  | (a,b,l) :: r,k,i=>bif Nat.beq a k && Nat.beq b i then some l else lvOf r k i
def zq (fn:Func):Code:=match fn.body with
  | some c=>c
  | none=>.skip
def body (P:Program) (T:Nat→Option AT) (eqs:Nat→Bool) (lv:Nat→Nat→Option (List Nat)) (fn:Func) (c:Code) (args:List AV) (H:Heap) (nx:Nat) (Q:AV→Heap→Nat→Prop):Prop :=
  aw P T eqs lv c (fun env H nx=>aret T fn.results.toList env H fun vs=>RET1 vs fun v=>Q v H nx) (fun _ _ _ _=>False) (fun env H nx=>aret T fn.results.toList env H fun vs=>RET1 vs fun v=>Q v H nx) (env0 args) H nx
section
variable {P:Program} {T:Nat→Option AT} {eqs:Nat→Bool} (hT:TOk P T) (hE:EOk P T eqs) {lv:Nat→Nat→Option (List Nat)}
def zkh (tmps:Array Value) (r:ResultVar):Sem Value:=match r with
  | .tmp t=>pure (tmps.getD t undef)
  | .cell b t=>do loadVar t (← asAddr (tmps.getD b undef))
theorem ztj {s:Sem Value} {w:World} {v:Value} (h:s.run P w=.ok v w) (acc:Array Value):(acc.push <$> s).run P w=.ok (acc.push v) w:=by
  have hf:(acc.push <$> s)=(s >>= fun x=>pure (acc.push x)):=rfl
  simp only [hf,Sem.run_bind,h,Result.andThen_ok,Sem.run_pure]
include hT in
theorem znl {env:Env} {H:Heap} {nx N:Nat} {ρ:Nat→Loc} {w:World} {a:Act} (st:St N env H nx ρ w a):∀ (rs:List ResultVar) (k:List AV→Prop),aret T rs env H k →
    ∃ vs cs,k vs∧LRel (Kof ρ H w) ρ (· < nx) vs cs∧cs.length=rs.length ∧
      ∀ acc:Array Value,(List.foldlM (fun (acc:Array Value) (r:ResultVar)=>acc.push <$> zkh a.tmps r) acc rs).run P w=.ok (acc ++ cs.toArray) w
  | [],k,h=>⟨[],[],h,LRel.nil,rfl,fun acc=>by simp [Sem.run_pure]⟩
  | .tmp t :: r,k,h=>by
    obtain ⟨vs,cs,h1,h2,h3,h4⟩:=znl st r _ h
    refine ⟨env t :: vs,a.tmps.getD t undef :: cs,h1,LRel.cons (st.env t) h2,by simp [h3],fun acc => ?_⟩
    have hr:(zkh a.tmps (.tmp t)).run P w=.ok (a.tmps.getD t undef) w:=rfl
    simp only [List.foldlM_cons,Sem.run_bind,ztj hr,Result.andThen_ok,h4]
    congr 1
    apply Array.ext'
    simp
  | .cell b t :: r,k,h=>by
    simp only [aret] at h
    split at h
    · rename_i at_ ht
      obtain ⟨i,d,z,ha⟩:=hT.at ht
      unfold LOAD at h
      split at h
      · rename_i cells off rd hrd
        split at h
        · rename_i v hv
          obtain ⟨bb,q,he,hc⟩:=zto (H0:=H) st.sim (st.env b) hrd (fun _ _=>rfl)
          obtain ⟨cv,hr,hR⟩:=zma (P:=P) ha hc hv
          obtain ⟨vs,cs,h1,h2,h3,h4⟩:=znl st r _ h
          refine ⟨v :: vs,cv :: cs,h1,LRel.cons hR h2,by simp [h3],fun acc => ?_⟩
          have hr':(zkh a.tmps (.cell b t)).run P w=.ok cv w:=by
            simp only [zkh,Sem.run_bind,he,asAddr,Sem.run_pure,Result.andThen_ok,hr]
          simp only [List.foldlM_cons,Sem.run_bind,ztj hr',Result.andThen_ok,h4]
          congr 1
          apply Array.ext'
          simp
        · exact h.elim
      · exact h.elim
    · exact h.elim
theorem za.mono {f:FuncId} {args:List AV} {H:Heap} {nx:Nat} {Q Q':AV→Heap→Nat→Prop} (h:za P f args H nx Q) (hq:∀ v H' nx',Q v H' nx'→Q' v H' nx'):za P f args H nx Q' :=
  fun ρ w cargs s ha=>zae (h ρ w cargs s ha) fun cv w' ⟨r,H',nx',ρ',q1,q2⟩=>⟨r,H',nx',ρ',hq _ _ _ q1,q2⟩
include hT hE in
theorem zvm (hM:P.follows .mixedOrders=true) {f:FuncId} {fn:Func} {c:Code} {args:List AV} {H:Heap} {nx:Nat} {Q:AV→Heap→Nat→Prop} (hf:P.funcs[f]? = some fn) (hb:fn.body=some c) (hname:(fn.name == "runtime.NumGoroutine")=false)
    (hwf:wfC fn.ntmps c=true) (hlen':Nat.ble args.length fn.ntmps=true)
    (h:body P T eqs lv fn c args H nx Q) :
    za P f args H nx Q:=by
  have hlen:=Nat.le_of_ble_eq_true hlen'
  intro ρ w cargs s ha
  have hcl:cargs.size=args.length:=by simpa using ha.1
  have hcall:(callFunc f cargs).run P w=.ok (.enter f cargs) w:=by
    have hname':¬ fn.name = "runtime.NumGoroutine" := by simpa using hname
    simp [callFunc,program,Sem.run_bind,Sem.run,hf,hname',hb,pure]
  rw [hcall]
  simp only [zy]
  refine calls_of_wp hf hb (Code.wp_mono (fun e a w' q => ?_) (zcf hT hE (lv:=lv) nx ρ H w hM c _ _ _ hwf _ w ⟨env0 args,H,nx,ρ,h,⟨s,fun t => ?_,?_,rfl⟩,Fr.refl _ _ _ _⟩))
  · have fin:∀ (a:Act) (w':World),RS nx ρ H w fn.ntmps (fun env H nx=>aret T fn.results.toList env H fun vs=>RET1 vs fun v=>Q v H nx) a w' →
        a.defers=[]∧∃ v,(results fn a.tmps).run P w'=.ok v w'∧∃ u,Ending.returned v=.returned u∧∃ r H' nx' ρ',Q r H' nx'∧Sim (· < nx') ρ' H' w'∧VRel (Kof ρ' H' w') ρ' (· < nx') r u∧Fr (· < nx) ρ H w (· < nx') ρ' H' w':=by
      intro a w' ⟨env,H',nx',ρ',h1,h2,h3⟩
      obtain ⟨vs,cs,q1,q2,q3,q4⟩:=znl hT h2 _ _ h1
      refine ⟨h2.defers,?_⟩
      have hm:(fn.results.mapM (zkh a.tmps)).run P w'=.ok cs.toArray w':=by
        rw [Array.mapM_eq_foldlM]
        have:=q4 #[]
        rw [Array.foldlM_toList] at this
        simpa using this
      have hrun:∀ v,(if h:cs.toArray.size=1 then cs.toArray[0] else Value.tuple cs.toArray)=v→(results fn a.tmps).run P w'=.ok v w':=by
        intro v hv
        have e:results fn a.tmps=(do let vs ← fn.results.mapM (zkh a.tmps); pure (if h:vs.size=1 then vs[0] else .tuple vs)):=by
          unfold results zkh
          rfl
        rw [e]
        simp only [Sem.run_bind,hm,Result.andThen_ok,Sem.run_pure,hv]
      unfold RET1 at q1
      split at q1
      · rename_i v
        obtain ⟨cv,hcv,hR⟩:=q2.get (j:=0) (v:=v) rfl
        have hc1:cs=[cv]:=by
          have hl:=q2.1
          match cs,hl,hcv with
          | [x],_,h=>simp at h; rw [h]
        subst hc1
        exact ⟨cv,hrun cv (by simp),cv,rfl,v,H',nx',ρ',q1,h2.sim,hR,h3⟩
      · rename_i hne
        have hc1:cs.length ≠ 1:=by
          intro hl
          have:=q2.1
          rw [hl] at this
          match vs,this with
          | [x],_=>exact hne x rfl
        refine ⟨.tuple cs.toArray,hrun _ (by simp [hc1]),_,rfl,.tup vs,H',nx',ρ',q1,h2.sim,?_,h3⟩
        exact .tup _ _ (by simpa using q2.1) fun j v c hv hc=>q2.2 j v c hv (by simpa using hc)
    cases e with
    | normal=>exact fin a w' q
    | ret=>exact fin a w' q
    | exit i=>obtain ⟨_,_,_,_,h,_⟩:=q; exact h.elim
    | goto l=>exact q.elim
    | panic c=>exact q.elim
    | outgrown=>exact q.elim
  · show VRel _ _ _ (nth args t) ((cargs ++ Array.replicate (fn.ntmps - cargs.size) undef).getD t undef)
    unfold nth
    by_cases ht:t < args.length
    · obtain ⟨cv,h1,h2⟩:=ha.get (List.getElem?_eq_getElem ht)
      have:(cargs ++ Array.replicate (fn.ntmps - cargs.size) undef).getD t undef=cv:=by
        rw [Array.getD_eq_getD_getElem?, Array.getElem?_append_left (by omega)]
        simp only [Array.getElem?_toList] at h1
        rw [h1]; rfl
      rw [this,List.getD_eq_getElem?_getD,List.getElem?_eq_getElem ht]
      exact h2
    · rw [List.getD_eq_getElem?_getD,List.getElem?_eq_none (by omega)]
      exact .junk _
  · simp; omega
include hT hE in
theorem zg (hM:P.follows .mixedOrders=true) {f:FuncId} {fn:Func} {c:Code} {args:List AV} {H:Heap} {nx:Nat} {Q:AV→Heap→Nat→Prop} {V:Prop} (hf:P.funcs[f]? = some fn) (hb:fn.body=some c) (hname:(fn.name == "runtime.NumGoroutine")=false)
    (hwf:wfC fn.ntmps c=true) (hlen':Nat.ble args.length fn.ntmps=true)
    (he:body P T eqs lv fn c args H nx Q=V) (h:V):za P f args H nx Q:=by
  subst he
  exact zvm hT hE hM hf hb hname hwf hlen' h
end
end Go.Proofs.YtpllgpgdcbgalaaDoor
