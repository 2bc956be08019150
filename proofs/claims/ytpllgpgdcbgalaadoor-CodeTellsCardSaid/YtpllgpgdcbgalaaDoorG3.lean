/- The operations' effects, on: append, copy. The operations' effects, on: a part of an array, bytes and texts, the lesser and the greater. Each abstract operation stands for the model's own. The operations again, one behind the other: continuations told what they want alone. A range over a map: its steps, whichever the order, against the abstract heap. The operations one behind the other, and the state for which they stand. -/
import Derived.Test.YtpllgpgdcbgalaaDoorG2
import Derived.Laws.Append
import Derived.Deep.DeepAppendWide
import Derived.Laws.BytesArg
import Derived.Laws.IdiomStrings
import Derived.Scope
set_option linter.unusedSimpArgs false
set_option linter.unusedVariables false
set_option maxRecDepth 8000
namespace Go.Proofs.YtpllgpgdcbgalaaDoor
open Go Go.RowKit
theorem zpx {α:Type} {n:Nat} (hn:0 < n):∀ (xs:List (List α)),(∀ x∈xs,x.length=n)→∀ q,xs.flatten[q]? = (xs[q / n]?).bind (·[q % n]?)
  | [],_,q=>by simp
  | x :: r,h,q=>by
    have hx:=h x (by simp)
    simp only [List.flatten_cons]
    by_cases hq:q < n
    · rw [List.getElem?_append_left (by omega),Nat.div_eq_of_lt hq,Nat.mod_eq_of_lt hq]
      rfl
    · rw [List.getElem?_append_right (by omega),hx,zpx hn r (fun y hy=>h y (by simp [hy]))]
      have e1:q / n=(q - n) / n+1:=by
        have:=Nat.div_eq_sub_div hn (Nat.le_of_not_lt hq); exact this
      have e2:q % n=(q - n) % n:=Nat.mod_eq_sub_mod (Nat.le_of_not_lt hq)
      rw [e1,e2,List.getElem?_cons_succ]
theorem zpw {α:Type} {n:Nat}:∀ (xs:List (List α)),(∀ x∈xs,x.length=n)→xs.flatten.length=xs.length*n
  | [],_=>by simp
  | x :: r,h=>by
    simp only [List.flatten_cons,List.length_append,List.length_cons,h x (by simp),zpw r (fun y hy=>h y (by simp [hy]))]
    rw [Nat.add_mul]; omega
section
variable {P:Program} {T:Nat→Option AT} {o:Oper} {e:Operand→AV} {H0:Heap}
def zji (P:Program) (esz:Nat) (w:World) (cx:Value) (m:Nat) (us:List Value):Prop :=
  us.length=m*esz∧(∀ w:World,(Builtin.lenOf cx).run P w=.ok m w)∧∀ (n:Nat) (w':World),n≤m→w'.heap=w.heap→(Builtin.firstCells esz n cx).run P w'=.ok (us.take (n*esz)).toArray w'
theorem cell?_heap {w w':World} (h:w'.heap=w.heap) (a:Addr):w'.cell? a=w.cell? a:=by unfold World.cell?; rw [h]
theorem zlg {esz:Nat} {w:World} {a:Addr} {m c:Nat} {us:List Value} (hl:us.length=m*esz) (h:∀ (j:Nat) v,us[j]? = some v→w.cell? (a.add j)=some v):zji P esz w (.slice (some a) m c) m us:=by
  refine ⟨hl,fun w=>by simp [Builtin.lenOf,Sem.run_pure],fun n w' hn hw => ?_⟩
  have hlt:(us.take (n*esz)).length=n*esz:=by
    rw [List.length_take,hl]; exact Nat.min_eq_left (Nat.mul_le_mul_right _ hn)
  refine run_firstCells_some w' esz n a m c (us.take (n*esz)) hlt fun j v hv => ?_
  rw [List.getElem?_take] at hv
  split at hv
  · rw [cell?_heap hw]; exact h j v hv
  · cases hv
theorem zfd {esz:Nat} {w:World} {a:Option Addr} {c:Nat}:zji P esz w (.slice a 0 c) 0 []:=by
  cases a with
  | some a=>exact zlg (by simp) (fun j v h=>by simp at h)
  | none=>exact ⟨by simp,fun w=>by simp [Builtin.lenOf,Sem.run_pure],fun n w' _ _=>by simp [Builtin.firstCells,Sem.run_pure]⟩
theorem zkf {esz : Nat} (hpos:0 < esz) {A:Nat→Prop} {ρ:Nat→Loc} {H:Heap} {w:World} (s:Sim A ρ H w) {x:AV} {cx:Value} (hx:VRel (Kof ρ H w) ρ A x cx) {m:Nat} {news:List AV} {rd:List Nat}
    (h:zh esz H0 x=some (m,news,rd)) (hrd:∀ g∈rd,H g=H0 g):∃ us,LRel (Kof ρ H w) ρ A news us∧zji P esz w cx m us:=by
  unfold zh at h
  split at h
  · simp only [Option.some.injEq,Prod.mk.injEq] at h
    obtain ⟨rfl,rfl,rfl⟩:=h
    cases hx
    exact ⟨[],LRel.nil,zfd⟩
  · simp only [Option.some.injEq,Prod.mk.injEq] at h
    obtain ⟨rfl,rfl,rfl⟩:=h
    cases hx
    exact ⟨[],LRel.nil,zfd⟩
  · rename_i l
    split at h
    · rename_i h1
      subst h1
      simp only [Option.some.injEq,Prod.mk.injEq] at h
      obtain ⟨rfl,rfl,rfl⟩:=h
      cases hx
      refine ⟨l.map fun b=>.int .u8 (b.toNat:Int),⟨by simp,fun j v c hv hc => ?_⟩,by simp,fun w => ?_,fun n w' hn _ => ?_⟩
      · simp only [List.getElem?_map,Option.map_eq_some_iff] at hv hc
        obtain ⟨b,hb,rfl⟩:=hv
        obtain ⟨b',hb',rfl⟩:=hc
        rw [hb] at hb'
        obtain rfl:=Option.some.inj hb'
        exact .int _ _
      · have:(ByteArray.mk l.toArray).size=l.length:=by show l.toArray.size=_; simp
        simp [Builtin.lenOf,Sem.run_pure,this]
      · simp only [Builtin.firstCells,Sem.run_pure,Nat.mul_one]
        congr 1
        apply Array.ext'
        have:((ByteArray.mk l.toArray).extract 0 n).data.toList=l.take n:=by
          simp [ByteArray.data_extract,List.extract_toArray,List.extract_eq_drop_take']
        simp only [Array.toList_map,this,List.map_take]
    · cases h
  · rename_i xs
    split at h
    · rename_i hall
      simp only [Option.some.injEq,Prod.mk.injEq] at h
      obtain ⟨rfl,rfl,rfl⟩:=h
      have hall':∀ y∈xs,y.length=esz:=fun y hy=>by simpa using List.all_eq_true.1 hall y hy
      cases hx with
      | ro _ a len cap sz b off C e1 e2 e3 e4 e5 e6 =>
        subst e1
        by_cases hne:xs=[]
        · subst hne; exact ⟨[],LRel.nil,zfd⟩
        · obtain rfl:=e3 hne
          have hsz:sz=esz:=by
            obtain ⟨y,hy⟩:=List.exists_mem_of_ne_nil _ hne
            rw [← e4 y hy]; exact hall' y hy
          subst hsz
          have hfl:=zpw xs hall'
          have hget:∀ (q:Nat) v,xs.flatten[q]? = some v→∃ y,xs[q / sz]? = some y∧y[q % sz]? = some v:=by
            intro q v hv
            rw [zpx hpos xs hall'] at hv
            obtain ⟨y,hy,hv⟩:=Option.bind_eq_some_iff.1 hv
            exact ⟨y,hy,hv⟩
          refine ⟨(List.range (xs.length*sz)).map fun q=>C (q / sz) (q % sz),⟨by simp [hfl],fun j v c hv hc => ?_⟩,zlg (by simp) fun j v hv => ?_⟩
          · obtain ⟨y,hy,hyv⟩:=hget j v hv
            have hj:j < xs.length*sz:=by rw [← hfl]; exact (List.getElem?_eq_some_iff.1 hv).1
            simp only [List.getElem?_map,List.getElem?_range hj,Option.map_some,Option.some.injEq] at hc
            subst hc
            exact e6 _ _ _ v hy hyv
          · have hj:j < xs.length*sz:=by have:=(List.getElem?_eq_some_iff.1 hv).1; simpa using this
            simp only [List.getElem?_map,List.getElem?_range hj,Option.map_some,Option.some.injEq] at hv
            subst hv
            have hjf:j < xs.flatten.length:=by rw [hfl]; exact hj
            obtain ⟨y,hy,hyv⟩:=hget j _ (List.getElem?_eq_getElem hjf)
            have hk:=e5 _ _ _ _ hy hyv
            unfold zjf at hk
            split at hk
            · rename_i c el fr hK
              have h1:=(zw.1 hK).2
              rw [zbk]
              simp only [World.cell?, h1]
              have e:off+j / sz*sz+j % sz=off+j:=by have:=Nat.div_add_mod j sz; rw [Nat.mul_comm] at this; omega
              rw [e] at hk
              simpa using hk
            · cases hk
    · cases h
  · rename_i g off len
    split at h
    · rename_i sz cells hg
      split at h
      · rename_i hle
        simp only [Option.some.injEq,Prod.mk.injEq] at h
        obtain ⟨rfl,rfl,rfl⟩:=h
        have hH:H g=some (.row sz cells):=by rw [hrd g (by simp)]; exact hg
        cases hx with
        | slc _ _ _ cap a hA hle' hcap =>
          by_cases h0:len=0
          · subst h0
            exact ⟨[],by simpa using LRel.nil,zfd⟩
          · obtain ⟨_,rfl⟩:=hcap (by omega)
            obtain ⟨c,el,lo,hi,q1,q2,q3,q4,q5,q6⟩:=s.obj g _ hH
            have hcl:(ρ g).base+off+len*esz≤c.size:=by omega
            refine ⟨(c.toList.drop ((ρ g).base+off)).take (len*esz),⟨by simp; omega,fun j v cv hv hc => ?_⟩,zlg (by simp; omega) fun j v hv => ?_⟩
            · rw [List.getElem?_take] at hv hc
              split at hv
              · rename_i hj
                rw [if_pos hj,List.getElem?_drop] at hc
                rw [List.getElem?_drop] at hv
                obtain ⟨cv',h1,h2⟩:=q6 _ v hv
                rw [show (ρ g).base+off+j=(ρ g).base+(off+j) by omega] at hc
                simp only [Array.getElem?_toList] at hc
                rw [h1] at hc
                obtain rfl:=Option.some.inj hc
                exact h2
              · cases hv
            · rw [List.getElem?_take] at hv
              split at hv
              · rw [List.getElem?_drop] at hv
                rw [zbk]
                simp only [World.cell?, q1]
                simpa using hv
              · cases hv
      · cases h
    · cases h
  · cases h
def zte (d:TypeDesc):Prop:=(∃ e,d=.slice e)∨d=.string
theorem zvb (hT:TOk P T) {t:Nat} (h:zki T t=true):∃ d,P.underlying t=some d∧zte d:=by
  unfold zki at h
  split at h
  · rename_i ht
    obtain ⟨i,d,z,ha⟩:=hT.at ht
    exact ⟨_,zaw ha,.inl ⟨_,rfl⟩⟩
  · rename_i ht
    obtain ⟨i,d,z,ha⟩:=hT.at ht
    exact ⟨_,zjj ha,.inr rfl⟩
  · cases h
theorem zux {t t2 ty el:Nat} {a:AT} {i':TypeInfo} {d' d2:TypeDesc} {z':Value} (hu:P.underlying t=some (.slice el)) (h2:P.underlying t2=some d2) (hd2:zte d2)
    (ha:AtOk P el a i' d' z') {w w':World} {cx:Value} {m:Nat} {us:List Value} (hs:zji P a.size w cx m us) (base:Option Addr) (n c:Nat) (hfit:n+m≤c)
    (hw:match base with | some ad=>(storeCells (ad.add (n*a.size)) us).run P w=.ok () w' | none=>w'=w) :
    (Builtin.append_ #[t,t2] ty #[.slice base n c,cx]).run P w=.ok (.slice base (n+m) c) w':=by
  obtain ⟨hl,hlen,hfc⟩:=hs
  have hf:=hfc m w (Nat.le_refl _) rfl
  rw [← hl,List.take_length] at hf
  have hso:=zak ha
  cases base with
  | none =>
    simp only at hw
    subst hw
    rcases hd2 with ⟨e,rfl⟩ | rfl <;> simp [Builtin.append_,run_underlying hu,run_underlying h2,hso,hlen,hfit,hf]
  | some ad =>
    simp only at hw
    rcases hd2 with ⟨e,rfl⟩ | rfl <;> simp [Builtin.append_,run_underlying hu,run_underlying h2,hso,hlen,hfit,hf,hw]
theorem zsh {need old bytes:Nat} (h:old < need) (hb:need*bytes≤140737488355328+(if bytes=1 then 268435456 else 0)):Builtin.nextslicecap need old*bytes≤281474976710656:=by
  by_cases e:bytes=1
  · subst e
    rw [if_pos rfl] at hb
    exact growslice_fits_wide h (by omega)
  · rw [if_neg e] at hb
    exact growslice_fits h hb
theorem ztu (b:Nat):140737488355328+(if b=1 then 268435456 else 0)≤140737756790784:=by
  split <;> omega
theorem ztk {t t2 ty el:Nat} {a:AT} {i':TypeInfo} {d' d2:TypeDesc} {z':Value} (hu:P.underlying t=some (.slice el)) (h2:P.underlying t2=some d2) (hd2:zte d2)
    (ha:AtOk P el a i' d' z') {w:World} {cx:Value} {m:Nat} {us:List Value} (hs:zji P a.size w cx m us) {base:Option Addr} {n c:Nat} {olds:List Value} (ho:zji P a.size w (.slice base n c) n olds)
    (hfit:c < n+m) (hb0:0 < a.bytes) (hb:(n+m)*a.bytes≤140737488355328+(if a.bytes=1 then 268435456 else 0)) :
    ∃ c' w' , (Builtin.append_ #[t,t2] ty #[.slice base n c,cx]).run P w=.ok (.slice (some ⟨w.heap.size,0,none⟩) (n+m) c') w'∧n+m≤c' ∧
      w'.heap=(w.alloc (.cells (olds ++ us ++ (Builtin.zeroCells z'.cells (c' - (n+m))).toList).toArray el (0,0))).heap∧w'.os=w.os∧w'.tape=w.tape∧w'.output=w.output:=by
  obtain ⟨hl,hlen,hfc⟩:=hs
  obtain ⟨hl',_,hfo⟩:=ho
  have hf:=hfc m w.drew (Nat.le_refl _) rfl
  have hg:=hfo n w.drew (Nat.le_refl _) rfl
  rw [← hl,List.take_length] at hf
  rw [← hl',List.take_length] at hg
  have hso:=zak ha
  have hn:¬ (n+m≤c):=by omega
  have hnb:n+m≤(n+m)*a.bytes:=Nat.le_mul_of_pos_right _ hb0
  have hll:=ztu a.bytes
  have h63':¬ (9223372036854775807 < ((n:Int)+(m:Int))):=by omega
  have h48':¬ (281474976710656 < Builtin.nextslicecap (n+m) c*i'.bytes):=by rw [ha.bytes]; have:=zsh hfit hb; omega
  have hgc:n+m≤grownCap w (n+m) c el:=by simp [grownCap,Question.cut]
  refine ⟨grownCap w (n+m) c el,w.drew.alloc (.cells (olds ++ us ++ (Builtin.zeroCells z'.cells (grownCap w (n+m) c el - (n+m))).toList).toArray el (0,0)),?_,hgc,rfl,rfl,rfl,rfl⟩
  have hi:=ha.info
  have hz:=ha.zero
  rcases hd2 with ⟨e,rfl⟩ | rfl
  · simp [Builtin.append_,run_underlying hu,run_underlying h2,hso,typeInfo,zeroValue,hi,hz,hlen,hn,h63',h48',Question.forced,hf,hg,newRow,grownCap]
    congr 2
    apply Array.ext'
    simp
  · simp [Builtin.append_,run_underlying hu,run_underlying h2,hso,typeInfo,zeroValue,hi,hz,hlen,hn,h63',h48',Question.forced,hf,hg,newRow,grownCap]
    congr 2
    apply Array.ext'
    simp
theorem zij (zs:Array Value) (n:Nat):(Builtin.zeroCells zs n).size=n*zs.size:=by simp [Builtin.zeroCells]
structure zur (P:Program) (t t2 ty el:Nat) (a:AT) (z':Value) (w:World) (cx:Value) (m:Nat) (us:List Value):Prop where
  len:us.length=m*a.size
  fit:∀ (base:Option Addr) (n c:Nat) (w':World),n+m≤c→m*a.bytes≤140737756790784→(match base with | some ad=>(storeCells (ad.add (n*a.size)) us).run P w=.ok () w' | none=>w'=w)→(Builtin.append_ #[t,t2] ty #[.slice base n c,cx]).run P w=.ok (.slice base (n+m) c) w'
  grow : ∀ {base:Option Addr} {n c:Nat} {olds:List Value},zji P a.size w (.slice base n c) n olds→c < n+m→(n+m)*a.bytes≤140737488355328+(if a.bytes=1 then 268435456 else 0)→∃ c' w' , (Builtin.append_ #[t,t2] ty #[.slice base n c,cx]).run P w=.ok (.slice (some ⟨w.heap.size,0,none⟩) (n+m) c') w'∧n+m≤c' ∧
      w'.heap=(w.alloc (.cells (olds ++ us ++ (Builtin.zeroCells z'.cells (c' - (n+m))).toList).toArray el (0,0))).heap∧w'.os=w.os∧w'.tape=w.tape∧w'.output=w.output
theorem zxq {t t2 ty el:Nat} {a:AT} {i':TypeInfo} {d':TypeDesc} {z':Value} {ik:IntKind} (hu:P.underlying t=some (.slice el)) (h2:P.underlying t2=some (.int ik))
    (ha:AtOk P el a i' d' z') (hzl:a.zero.length=a.size) (hpos:0 < a.size) (hb0:0 < a.bytes) {w:World} {k:IntKind} {m:Nat} (hm:m≤140737488355328):zur P t t2 ty el a z' w (.int k m) m (Builtin.zeroCells z'.cells m).toList:=by
  have hso:=zak ha
  have hi:=ha.info
  have hz:=ha.zero
  have hw:IntKind.i64.wrap (m:Int)=m:=IntWalk.i64_in _ (by omega)
  have hzs:z'.cells.size=a.size:=by rw [ha.zsize,hzl]
  have h0:¬ ((m:Int) < 0):=by omega
  have hzm:m*a.size=0→Builtin.zeroCells z'.cells m = #[]:=fun h=>by
    have:m=0:=by rcases Nat.mul_eq_zero.1 h with h | h <;> omega
    subst this; simp [Builtin.zeroCells]
  refine ⟨by simp [zij,hzs],fun base n c w' hfit hb hst => ?_,fun {base n c olds} hs hlt hb => ?_⟩
  · have h48:¬ ((m:Int)*(i'.bytes:Int) > 2 ^ 48):=by
      rw [ha.bytes]
      have:((m*a.bytes:Nat):Int)≤140737756790784:=by omega
      rw [Int.natCast_mul] at this
      omega
    have h48':¬ (281474976710656 < (m:Int)*(i'.bytes:Int)):=by omega
    by_cases h00:m*a.size=0
    · have e:=hzm h00
      rw [e] at hst
      cases base with
      | none =>
        simp only at hst; subst hst
        simp [Builtin.append_,run_underlying hu,run_underlying h2,hso,typeInfo,zeroValue,hi,hz,asInt,asIntOf,hw,h0,h48',hfit,h00]
      | some ad =>
        try simp only at hst
        simp [Builtin.append_,run_underlying hu,run_underlying h2,hso,typeInfo,zeroValue,hi,hz,asInt,asIntOf,hw,h0,h48',hfit,h00]
        rw [hst]; rfl
    · cases base with
      | none =>
        simp only at hst; subst hst
        simp [Builtin.append_,run_underlying hu,run_underlying h2,hso,typeInfo,zeroValue,hi,hz,asInt,asIntOf,hw,h0,h48',hfit,h00]
      | some ad =>
        try simp only at hst
        simp [Builtin.append_,run_underlying hu,run_underlying h2,hso,typeInfo,zeroValue,hi,hz,asInt,asIntOf,hw,h0,h48',hfit,h00,hst]
  · obtain ⟨hl',_,hfo⟩:=hs
    have hg:=hfo n w.drew (Nat.le_refl _) rfl
    rw [← hl',List.take_length] at hg
    have hn:¬ (n+m≤c):=by omega
    have hnb:n+m≤(n+m)*a.bytes:=Nat.le_mul_of_pos_right _ hb0
    have hll:=ztu a.bytes
    have h63':¬ (9223372036854775807 < ((n:Int)+(m:Int))):=by omega
    have hmb:m*a.bytes≤140737756790784:=by have:=Nat.mul_le_mul_right a.bytes (Nat.le_add_left m n); omega
    have h48:¬ (281474976710656 < (m:Int)*(i'.bytes:Int)):=by
      rw [ha.bytes]
      have:((m*a.bytes:Nat):Int)≤140737756790784:=by omega
      rw [Int.natCast_mul] at this
      omega
    have h48':¬ (281474976710656 < Builtin.nextslicecap (n+m) c*i'.bytes):=by rw [ha.bytes]; have:=zsh hlt hb; omega
    have hgc:n+m≤grownCap w (n+m) c el:=by simp [grownCap,Question.cut]
    refine ⟨grownCap w (n+m) c el,w.drew.alloc (.cells (olds ++ (Builtin.zeroCells z'.cells m).toList ++ (Builtin.zeroCells z'.cells (grownCap w (n+m) c el - (n+m))).toList).toArray el (0,0)),?_,hgc,rfl,rfl,rfl,rfl⟩
    by_cases h00:m*a.size=0
    · have e:=hzm h00
      simp [Builtin.append_,run_underlying hu,run_underlying h2,hso,typeInfo,zeroValue,hi,hz,asInt,asIntOf,hw,h0,h48,h48',hn,h00,h63',Question.forced,hg,newRow,grownCap,e]
      congr 2
      apply Array.ext'
      simp
    · simp [Builtin.append_,run_underlying hu,run_underlying h2,hso,typeInfo,zeroValue,hi,hz,asInt,asIntOf,hw,h0,h48,h48',hn,h00,h63',Question.forced,hg,newRow,grownCap]
      congr 2
      apply Array.ext'
      simp
theorem zvl {t t2 ty el:Nat} {a:AT} {i':TypeInfo} {d' d2:TypeDesc} {z':Value} (hu:P.underlying t=some (.slice el)) (h2:P.underlying t2=some d2) (hd2:zte d2)
    (ha:AtOk P el a i' d' z') (hb0:0 < a.bytes) {w:World} {cx:Value} {m:Nat} {us:List Value} (hs:zji P a.size w cx m us):zur P t t2 ty el a z' w cx m us :=
  ⟨hs.1,fun base n c w' hfit _ hw=>zux hu h2 hd2 ha hs base n c hfit hw,fun ho hlt hb=>ztk hu h2 hd2 ha hs ho hlt hb0 hb⟩
theorem znn (hT:TOk P T) {t t2 ty el:Nat} {a:AT} {s0 b:Nat} {z0:List AV} {i i':TypeInfo} {d d':TypeDesc} {z z':Value} (h:AtOk P t ⟨.slice el,s0,b,z0⟩ i d z) (ha:AtOk P el a i' d' z')
    (hzl:a.zero.length=a.size) (hpos:0 < a.size) (hb0:0 < a.bytes) (h2:(zki T t2 || zmz T t2)=true) {A:Nat→Prop} {ρ:Nat→Loc} {H:Heap} {w:World} (s:Sim A ρ H w) {x:AV} {cx:Value} (hx:VRel (Kof ρ H w) ρ A x cx) {m:Nat} {news:List AV} {rd:List Nat}
    (hsrc:zh a.size H0 (srcV T t2 a.zero x)=some (m,news,rd)) (hrd:∀ g∈rd,H g=H0 g):∃ us,LRel (Kof ρ H w) ρ A news us∧zur P t t2 ty el a z' w cx m us:=by
  have hu:=zaw h
  unfold srcV at hsrc
  split at hsrc
  · rename_i hi
    unfold zmz at hi
    split at hi
    · rename_i ht
      obtain ⟨i2,d2,z2,ha2⟩:=hT.at ht
      unfold zsrc at hsrc
      split at hsrc
      · rename_i k n
        split at hsrc
        · rename_i hn
          have hall:(List.replicate n.toNat a.zero).all (fun x=>x.length == a.size)=true:=by simp [hzl]
          simp only [zh,hall,if_true,Option.some.injEq,Prod.mk.injEq,List.length_replicate] at hsrc
          obtain ⟨rfl,rfl,rfl⟩:=hsrc
          cases hx
          obtain ⟨m,rfl⟩:∃ m:Nat,n=m:=⟨n.toNat,by omega⟩
          refine ⟨_,?_,zxq hu (zoz ha2) ha hzl hpos hb0 (by omega)⟩
          have e:(Builtin.zeroCells z'.cells m).toList=((Array.range (m*a.size)).map (z'.cells[· % z'.cells.size]!)).toList:=by
            have hzs:z'.cells.size=a.size:=by rw [ha.zsize,hzl]
            unfold Builtin.zeroCells; rw [hzs]
          rw [e,zny z'.cells m a.size (by rw [ha.zsize,hzl]) hpos,ha.cells]
          exact (LRel.scalars _).replicate _
        · simp [zh] at hsrc
      · simp [zh] at hsrc
    · cases hi
  · rename_i hi
    rw [hi,Bool.or_false] at h2
    obtain ⟨d2,hu2,hd2⟩:=zvb hT h2
    obtain ⟨us,q1,q2⟩:=zkf (P:=P) hpos s hx hsrc hrd
    exact ⟨us,q1,zvl hu hu2 hd2 ha hb0 q2⟩
theorem zxi (hT : TOk P T) {t t2 el:Nat} {a:AT} {x y:Operand} {s b:Nat} {z0:List AV} {i i':TypeInfo} {d d':TypeDesc} {z z':Value} (h:AtOk P t ⟨.slice el,s,b,z0⟩ i d z) (ha:AtOk P el a i' d' z')
    (hzl:a.zero.length=a.size) (hpos:0 < a.size) (hb0:0 < a.bytes) (h2:(zki T t2 || zmz T t2)=true) (ho:o.op=.call { callee:=.builtin .append,args := #[x,y],argTypes := #[t,t2] }) {nx:Nat} {k:Kt}
    (hk:zad a.size a.bytes (e x) (srcV T t2 a.zero (e y)) H0 nx k):∃ v rd fr D,(fr=[]∨fr=[nx])∧Eff P o e H0 rd fr D v∧k v rd fr D:=by
  have hu:=zaw h
  have exec:∀ (w w':World) (ev:Operand→Value) (cv cx cy:Value),ev x=cx→ev y=cy→(Builtin.append_ #[t,t2] o.type #[cx,cy]).run P w=.ok cv w'→(execOp ev o).run P w=.ok (.value cv) w':=by
    intro w w' ev cv cx cy e1 e2 hr
    simp only [execOp,ho,resolve,invoke,builtin,Sem.run_bind,Sem.run_pure,Result.andThen_ok,List.map_toArray,List.map_cons,List.map_nil,e1,e2,hr]
  unfold zad at hk
  split at hk
  · rename_i m news rd hsrc
    obtain ⟨hone,hk⟩:=hk
    have fresh:∀ (A:Nat→Prop) (ρ:Nat→Loc) (H:Heap) (w:World) (ev:Operand→Value) ad,Sim A ρ H w→(∀ q∈o.op.operands.toList,VRel (Kof ρ H w) ρ A (e q) (ev q))→(∀ g∈rd,H g=H0 g)→ev x=.slice ad 0 0→m ≠ 0→m*a.bytes≤140737488355328 →
        ∃ cv co l w',(execOp ev o).run P w=.ok (.value cv) w'∧w'.heap=(w.alloc co).heap∧w'.os=w.os∧w'.tape=w.tape∧w'.output=w.output∧l.block=w.heap.size∧(∀ w',w'.heap[w.heap.size]? = some co→zam (Kof ρ H w) ρ A w' l (.row a.size news)) ∧
          (∀ (K:zj) ρ' (A':Nat→Prop),ρ' nx=l→A' nx→VRel K ρ' A' (.slc nx 0 m) cv):=by
      intro A ρ H w ev ad s hr hrd hx hm hmb
      have ry:=hr y (by simp [Op.operands,Call.operands,ho])
      obtain ⟨us,hL,hS⟩:=znn (ty:=o.type) hT h ha hzl hpos hb0 h2 s ry hsrc hrd
      obtain ⟨c',w',q1,q2,q3,q4,q5,q6⟩:=hS.grow (zfd (P:=P) (esz:=a.size) (w:=w) (a:=ad) (c:=0)) (by omega) (Nat.le_add_right_of_le (by simpa using hmb))
      simp only [Nat.zero_add,List.nil_append] at q1 q2 q3
      refine ⟨_,_,⟨w.heap.size,0,c'*a.size,a.size⟩,w',exec _ _ _ _ _ _ hx rfl q1,q3,q4,q5,q6,rfl,fun w2 hw2 => ?_,fun K ρ' A' g1 g2=>zhk (Nat.le_refl _) q2 K ρ' A' g1 g2⟩
      have hul:us.length=m*a.size:=hS.len
      have hnl:news.length=us.length:=hL.1.symm
      have hzs:z'.cells.size=a.size:=by rw [ha.zsize,hzl]
      have htot:(us ++ (Builtin.zeroCells z'.cells (c' - m)).toList).toArray.size=c'*a.size:=by
        simp only [List.size_toArray,List.length_append,Array.length_toList,zij,hul,hzs]
        rw [← Nat.add_mul]; congr 1; omega
      have:=zje (K:=Kof ρ H w) (ρ:=ρ) (A:=A) (sz:=a.size) (cells:=news) (cs:=(us ++ (Builtin.zeroCells z'.cells (c' - m)).toList).toArray) (el:=el) (b:=w.heap.size) (lo:=0) (hi:=0)
        (by rw [hnl]; simpa using hL) (by rw [htot,hnl,hul]; exact Nat.mul_le_mul_right _ q2) (fun j _=>by omega) hw2
      rw [htot] at this
      exact this
    split at hk
    · rename_i hxe
      by_cases hm:m=0
      · refine ⟨.nils,rd,[],[],.inl rfl,Eff.read fun A ρ H w ev s hr hrd => ?_,?_⟩
        · have rx:=hr x (by simp [Op.operands,Call.operands,ho])
          have ry:=hr y (by simp [Op.operands,Call.operands,ho])
          rw [hxe] at rx
          generalize hcx:ev x=cx at rx
          cases rx
          obtain ⟨us,hL,hS⟩:=znn (ty:=o.type) hT h ha hzl hpos hb0 h2 s ry hsrc hrd
          subst hm
          exact ⟨_,exec _ _ _ _ _ _ hcx rfl (hS.fit none 0 0 _ (by omega) (by simp) rfl),.nils⟩
        · exact hk.1 hm
      · obtain ⟨hmb,hk⟩:=hk.2 hm
        refine ⟨_,rd,[nx],_,.inr rfl,Eff.new fun A ρ H w ev s hr hrd => ?_,hk⟩
        have rx:=hr x (by simp [Op.operands,Call.operands,ho])
        rw [hxe] at rx
        generalize hcx:ev x=cx at rx
        cases rx
        exact fresh A ρ H w ev _ s hr hrd hcx hm hmb
    · rename_i hxe
      by_cases hm:m=0
      · refine ⟨.zs,rd,[],[],.inl rfl,Eff.read fun A ρ H w ev s hr hrd => ?_,?_⟩
        · have rx:=hr x (by simp [Op.operands,Call.operands,ho])
          have ry:=hr y (by simp [Op.operands,Call.operands,ho])
          rw [hxe] at rx
          generalize hcx:ev x=cx at rx
          cases rx with
          | zs ad =>
          obtain ⟨us,hL,hS⟩:=znn (ty:=o.type) hT h ha hzl hpos hb0 h2 s ry hsrc hrd
          subst hm
          have hus:us=[]:=List.eq_nil_of_length_eq_zero (by simpa using hS.len)
          exact ⟨_,exec _ _ _ _ _ _ hcx rfl (hS.fit ad 0 0 w (by omega) (by simp) (by cases ad <;> simp [hus,storeCells,Sem.run_pure])),.zs _⟩
        · exact hk.1 hm
      · obtain ⟨hmb,hk⟩:=hk.2 hm
        refine ⟨_,rd,[nx],_,.inr rfl,Eff.new fun A ρ H w ev s hr hrd => ?_,hk⟩
        have rx:=hr x (by simp [Op.operands,Call.operands,ho])
        rw [hxe] at rx
        generalize hcx:ev x=cx at rx
        cases rx with
        | zs ad =>
        exact fresh A ρ H w ev _ s hr hrd hcx hm hmb
    · rename_i g off len hxe
      split at hk
      · rename_i sz cells hg
        obtain ⟨rfl,hle,hmb,hk⟩:=hk
        refine ⟨_,_,[nx],_,.inr rfl,fun A ρ H w ev s hr hrd hfr => ?_,hk⟩
        have hH:H g=some (.row a.size cells):=by rw [hrd g (by simp)]; exact hg
        have hrd':∀ q∈rd,H q=H0 q:=fun q hq=>hrd q (by simp [hq])
        have rx:=hr x (by simp [Op.operands,Call.operands,ho])
        have ry:=hr y (by simp [Op.operands,Call.operands,ho])
        rw [hxe] at rx
        generalize hcx:ev x=cx at rx
        obtain ⟨us,hL,hS⟩:=znn (ty:=o.type) hT h ha hzl hpos hb0 h2 s ry hsrc hrd'
        have hul:us.length=m*a.size:=hS.len
        have hnl:news.length=us.length:=hL.1.symm
        obtain ⟨olds,hoL,hoS⟩:=zkf (P:=P) (H0:=H) (x:=.slc g off len) (m:=len) (news:=(cells.drop off).take (len*a.size)) (rd:=[g]) hpos s rx (by simp [zh,hH,hle]) (fun _ _=>rfl)
        have hol:olds.length=len*a.size:=hoS.1
        have hnx:¬ A nx:=hfr nx (by simp)
        have hgs:(H g).isSome=true:=by rw [hH]; rfl
        cases rx with
        | slc _ _ _ cap ad hA hlc hcap =>
          by_cases hfit:len+m≤cap
          · -- in its own room
            obtain ⟨c,el',lo,hi,q1,q2,q3,q4,q5,q6⟩:=s.obj g _ hH
            by_cases hc0:cap=0
            · -- nothing at all
              have hl0:len=0:=by omega
              have hm0:m=0:=by omega
              subst hc0; subst hl0; subst hm0
              have hus:us=[]:=List.eq_nil_of_length_eq_zero (by simpa using hul)
              have hns:news=[]:=List.eq_nil_of_length_eq_zero (by rw [hnl,hus]; rfl)
              subst hns
              have hrun:=hS.fit ad 0 0 w (by omega) (by simp) (by cases ad <;> simp [hus,storeCells,Sem.run_pure])
              rw [exec _ _ _ _ _ _ hcx rfl hrun]
              obtain ⟨s',f'⟩:=s.move (w':=w) (g:=g) (g':=nx) hgs hnx (.row a.size []) ⟨(ρ g).block,(ρ g).base,(ρ g).tot,(ρ g).sz⟩ rfl (fun _ _=>rfl) (Nat.le_refl _) ⟨c,el',lo,hi,q1,q2,q3,q4,by simp; omega,fun j v h=>by simp at h⟩ rfl rfl rfl
              refine ⟨fun q=>if q=nx then _ else ρ q,by rw [zhm]; simpa [Heap.apply] using s',?_,by rw [zhm]; simpa [Heap.apply] using f'⟩
              exact .slc nx 0 0 0 _ (.inr (by simp)) (by omega) (fun h=>by omega)
            · obtain ⟨hcb,rfl⟩:=hcap (by omega)
              have hsz:(ρ g).sz=a.size:=q4.symm
              rw [hsz] at hcb
              have hroom:(ρ g).base+off+len*a.size+us.length≤c.size:=by
                have:(len+m)*a.size≤cap*a.size:=Nat.mul_le_mul_right _ hfit
                rw [Nat.add_mul] at this
                omega
              have hst:=run_storeCells_cells (P:=P) (ρ g).block ((ρ g).base+off+len*a.size) us 0 w (fun j hj=>by
                  have:(ρ g).base+off+len*a.size+0+j < c.size:=by omega
                  simp only [World.cell?, q1]
                  simp
                  omega)
                (fun j hj=>by
                  simp only [World.frozen?, q1]
                  have:=q2 ((ρ g).base+off+len*a.size+0+j) (by omega)
                  simp; omega) (hL.ones hone)
              simp only [Nat.add_zero] at hst
              obtain ⟨c',b1,b2,b3⟩:=zha (ρ g).block us ((ρ g).base+off+len*a.size) w c el' (lo,hi) q1 (by omega)
              obtain ⟨r1,r2,r3,r4,r5⟩:=zil (ρ g).block us ((ρ g).base+off+len*a.size) w
              have hrun:=hS.fit (some ⟨(ρ g).block,(ρ g).base+off,none⟩) len cap (w.setCells (ρ g).block ((ρ g).base+off+len*a.size) us) hfit (by have:=Nat.mul_le_mul_right a.bytes (Nat.le_add_left m len); have:=ztu a.bytes; omega) (by simp only [zbk]; exact hst)
              rw [exec _ _ _ _ _ _ hcx rfl hrun]
              have hdl:((cells.drop off).take (len*a.size)).length=len*a.size:=by simp; omega
              obtain ⟨s',f'⟩:=s.move (w':=w.setCells (ρ g).block ((ρ g).base+off+len*a.size) us) (g:=g) (g':=nx) hgs hnx (.row a.size ((cells.drop off).take (len*a.size) ++ news)) ⟨(ρ g).block,(ρ g).base+off,(ρ g).tot,(ρ g).sz⟩ rfl (fun b hb=>r1 b hb) (by omega)
                ⟨c', el',lo,hi,b1,q2,(by show c'.size=(ρ g).tot; omega),q4,(by show (ρ g).base+off+_≤(ρ g).tot; simp only [List.length_append,hdl,hnl]; omega),fun j v hv=>by
                  show ∃ cv,c'[(ρ g).base+off+j]? = some cv∧_
                  rw [List.getElem?_append] at hv
                  rw [hdl] at hv
                  split at hv
                  · rename_i hj
                    rw [List.getElem?_take,if_pos hj,List.getElem?_drop] at hv
                    obtain ⟨cv,g1,g2⟩:=q6 _ v hv
                    refine ⟨cv,?_,g2⟩
                    rw [b3,if_neg (by omega)]
                    rw [show (ρ g).base+off+j=(ρ g).base+(off+j) by omega]; exact g1
                  · rename_i hj
                    obtain ⟨u,g1,g2⟩:=hL.get hv
                    have hjl:=(List.getElem?_eq_some_iff.1 g1).1
                    refine ⟨u,?_,g2⟩
                    rw [b3,if_pos (by omega)]
                    rw [show (ρ g).base+off+j - ((ρ g).base+off+len*a.size)=j - len*a.size by omega]; exact g1⟩ r3 r4 r5
              refine ⟨fun q=>if q=nx then _ else ρ q,by rw [zhm]; simpa [Heap.apply] using s',?_,by rw [zhm]; simpa [Heap.apply] using f'⟩
              refine .slc nx 0 _ _ _ (.inr (by simp)) hfit fun _ => ?_
              rw [if_pos rfl]
              exact ⟨by show (ρ g).base+off+0+cap*(ρ g).sz≤(ρ g).tot; rw [hsz]; omega,rfl⟩
          · -- into a new row
            obtain ⟨c',w',p1,p2,p3,p4,p5,p6⟩:=hS.grow hoS (by omega) hmb
            rw [exec _ _ _ _ _ _ hcx rfl p1]
            obtain ⟨s1,f1⟩:=s.drop (H':=H.put g none) fun q ob hq=>by
              rw [Heap.put_eq] at hq
              split at hq
              · cases hq
              · exact hq
            have hzs:z'.cells.size=a.size:=by rw [ha.zsize,hzl]
            have hLL:LRel (Kof ρ (H.put g none) w) ρ A ((cells.drop off).take (len*a.size) ++ news) (olds ++ us):=(hoL.append hL).mono f1.k (fun _ h=>⟨rfl,h⟩)
            have htot:(olds ++ us ++ (Builtin.zeroCells z'.cells (c' - (len+m))).toList).toArray.size=c'*a.size:=by
              simp only [List.size_toArray,List.length_append,Array.length_toList,zij,hol,hul,hzs]
              rw [← Nat.add_mul,← Nat.add_mul]; congr 1; omega
            have hln:((cells.drop off).take (len*a.size) ++ news).length=(olds ++ us).length:=hLL.1.symm
            obtain ⟨s2,f2⟩:=s1.alloc hnx (.row a.size ((cells.drop off).take (len*a.size) ++ news)) (.cells (olds ++ us ++ (Builtin.zeroCells z'.cells (c' - (len+m))).toList).toArray el (0,0)) ⟨w.heap.size,0,c'*a.size,a.size⟩ rfl (fun w2 hw2=>by
              have:=zje (K:=Kof ρ (H.put g none) w) (ρ:=ρ) (A:=A) (sz:=a.size) (cells:=(cells.drop off).take (len*a.size) ++ news) (cs:=(olds ++ us ++ (Builtin.zeroCells z'.cells (c' - (len+m))).toList).toArray) (el:=el) (b:=w.heap.size) (lo:=0) (hi:=0)
                (by rw [hln]; show LRel _ _ _ _ (List.take (olds ++ us).length (olds ++ us ++ _)); rw [List.take_left]; exact hLL) (by rw [htot,hln]; simp only [List.length_append,hol,hul]; rw [← Nat.add_mul]; exact Nat.mul_le_mul_right _ p2) (fun j _=>by omega) hw2
              rw [htot] at this
              exact this)
            refine ⟨fun q=>if q=nx then (⟨w.heap.size,0,c'*a.size,a.size⟩:Loc) else ρ q,?_,?_,?_⟩
            · rw [zhm]; exact s2.heap p3
            · exact zhk (Nat.le_refl _) p2 _ _ _ (if_pos rfl) (.inr (by simp))
            · rw [zhm]
              refine f1.trans ⟨f2.agree,fun b ob hb => ?_,p4,p5,p6,by rw [p3]; exact f2.size⟩
              rw [show Kof _ (H.apply [(g,none),(nx,_)]) w'=_ from zhf p3]; exact f2.k b _ hb
      · exact hk.elim
    · exact hk.elim
  · exact hk.elim
theorem zabm {t t2 el:Nat} {a:AT} {x y:Operand} {s b:Nat} {z0:List AV} {i i':TypeInfo} {d d':TypeDesc} {z z':Value} (h:AtOk P t ⟨.slice el,s,b,z0⟩ i d z) (ha:AtOk P el a i' d' z')
    (hpos:0 < a.size) (ho:o.op=.call { callee:=.builtin .copy,args := #[x,y],argTypes := #[t,t2] }) {k:Kt}
    (hk:COPY a.size (e x) (e y) H0 k):∃ v rd D,Eff P o e H0 rd [] D v∧k v rd [] D:=by
  have hu:=zaw h
  have hso:=zak ha
  have exec:∀ (w w':World) (ev:Operand→Value) (cv cx cy:Value),ev x=cx→ev y=cy→(Builtin.copy_ #[t,t2] o.type #[cx,cy]).run P w=.ok cv w'→(execOp ev o).run P w=.ok (.value cv) w':=by
    intro w w' ev cv cx cy e1 e2 hr
    simp only [execOp,ho,resolve,invoke,builtin,Sem.run_bind,Sem.run_pure,Result.andThen_ok,List.map_toArray,List.map_cons,List.map_nil,e1,e2,hr]
  have crun:∀ (w w':World) (base:Option Addr) (len c:Nat) (cy:Value) (m:Nat) (us:List Value),zji P a.size w cy m us →
      (match base with | some ad=>(storeCells ad (us.take (min m len*a.size))).run P w=.ok () w' | none=>w'=w) →
      (Builtin.copy_ #[t,t2] o.type #[.slice base len c,cy]).run P w=.ok (.int .i64 ((min m len:Nat):Int)) w':=by
    intro w w' base len c cy m us hS hw
    have hf:=hS.2.2 (min m len) w (Nat.min_le_left _ _) rfl
    have hl:=hS.2.1
    cases base with
    | none =>
      simp only at hw
      subst hw
      simp [Builtin.copy_,run_underlying hu,hso,hl,hf,goInt]
    | some ad =>
      simp only at hw
      simp [Builtin.copy_,run_underlying hu,hso,hl,hf,goInt,hw]
  unfold COPY at hk
  split at hk
  · rename_i m news rd hsrc
    have zero:∀ (v:AV),e x=v→(v=.nils∨v=.zs)→k (.int .i64 0) rd [] []→∃ v rd D,Eff P o e H0 rd [] D v∧k v rd [] D:=by
      intro v hxe hv hk
      refine ⟨_,rd,[],Eff.read fun A ρ H w ev s hr hrd => ?_,hk⟩
      have rx:=hr x (by simp [Op.operands,Call.operands,ho])
      have ry:=hr y (by simp [Op.operands,Call.operands,ho])
      obtain ⟨us,hL,hS⟩:=zkf (P:=P) hpos s ry hsrc hrd
      rw [hxe] at rx
      generalize hcx:ev x=cx at rx
      have hex:∃ ad,cx=.slice ad 0 0:=by
        rcases hv with rfl | rfl <;> cases rx <;> exact ⟨_,rfl⟩
      obtain ⟨ad,rfl⟩:=hex
      have:=crun w w ad 0 0 (ev y) m us hS (by cases ad <;> simp [storeCells,Sem.run_pure])
      simp only [Nat.min_zero] at this
      exact ⟨_,exec _ _ _ _ _ _ hcx rfl this,.int _ _⟩
    split at hk
    · exact zero _ (by assumption) (.inl rfl) hk
    · exact zero _ (by assumption) (.inr rfl) hk
    · rename_i g off len hxe
      split at hk
      · rename_i sz cells hg
        obtain ⟨rfl,hle,hone,hk⟩:=hk
        refine ⟨_,_,_,fun A ρ H w ev s hr hrd _ => ?_,hk⟩
        have hH:H g=some (.row a.size cells):=by rw [hrd g (by simp)]; exact hg
        have rx:=hr x (by simp [Op.operands,Call.operands,ho])
        have ry:=hr y (by simp [Op.operands,Call.operands,ho])
        obtain ⟨us,hL,hS⟩:=zkf (P:=P) hpos s ry hsrc (fun q hq=>hrd q (by simp [hq]))
        rw [hxe] at rx
        generalize hcx:ev x=cx at rx
        have hul:us.length=m*a.size:=hS.1
        have hnl:news.length=us.length:=hL.1.symm
        have hLt:=hL.take (min m len*a.size)
        have htl:(news.take (min m len*a.size)).length=min m len*a.size:=by
          rw [List.length_take,hnl,hul]; exact Nat.min_eq_left (Nat.mul_le_mul_right _ (Nat.min_le_left _ _))
        have hmm:min m len*a.size≤len*a.size:=Nat.mul_le_mul_right _ (Nat.min_le_right _ _)
        cases rx with
        | slc _ _ _ cap ad hA hlc hcap =>
          by_cases h0:cap=0
          · have hl0:len=0:=by omega
            subst h0; subst hl0
            have hrun:=crun w w ad 0 0 (ev y) m us hS (by cases ad <;> simp [storeCells,Sem.run_pure])
            rw [exec _ _ _ _ _ _ hcx rfl hrun]
            have hsp:zao cells off (news.take (min m 0*a.size))=cells:=by simp [zao]
            obtain ⟨c,el',lo,hi,q1,q2,q3,q4,q5,q6⟩:=s.obj g _ hH
            obtain ⟨s',f'⟩:=s.write (w':=w) (g:=g) (by rw [hH]; rfl) (.row a.size (zao cells off (news.take (min m 0*a.size)))) (fun _ _=>rfl) (Nat.le_refl _) (by rw [hsp]; exact ⟨c,el',lo,hi,q1,q2,q3,q4,q5,q6⟩) rfl rfl rfl
            exact ⟨ρ,by rw [zbr]; exact s',.int _ _,by rw [zbr]; exact f'⟩
          · obtain ⟨_,rfl⟩:=hcap (by omega)
            obtain ⟨w',p1,p2,p3,_⟩:=zrz (P:=P) (off:=off) s hH hLt (List.all_eq_true.2 fun v hv=>List.all_eq_true.1 hone v (List.mem_of_mem_take hv)) (by rw [htl]; omega)
            have hrun:=crun w w' (some ⟨(ρ g).block,(ρ g).base+off,none⟩) len cap (ev y) m us hS p1
            rw [exec _ _ _ _ _ _ hcx rfl hrun]
            exact ⟨ρ,by rw [zbr]; exact p2,.int _ _,by rw [zbr]; exact p3⟩
      · exact hk.elim
    · exact hk.elim
  · exact hk.elim
end
end Go.Proofs.YtpllgpgdcbgalaaDoor
set_option maxRecDepth 8000
namespace Go.Proofs.YtpllgpgdcbgalaaDoor
open Go Go.RowKit
section
variable {P:Program} {T:Nat→Option AT} {o:Oper} {e:Operand→AV} {H0:Heap}
theorem zacx {t el:Nat} {s b:Nat} {z0:List AV} {i:TypeInfo} {d:TypeDesc} {z:Value} (h:AtOk P t ⟨.ptr el,s,b,z0⟩ i d z):P.underlying t=some (.pointer el):=by
  have:=h.kind
  rw [h.und]
  cases d <;> simp only [zcd] at this <;> cases this
  rfl
theorem zxc (hT:TOk P T) {t ar n el:Nat} {x:Operand} {lo hi:Option Operand} {s b:Nat} {z0:List AV} {i:TypeInfo} {d:TypeDesc} {z:Value} (hu:P.underlying t=some (.pointer ar)) (ha:AtOk P ar ⟨.array n el,s,b,z0⟩ i d z) (hsz:zc T el ≠ 0)
    (ho:o.op=.slice t x lo hi none) {k:Kt} (hk:zou (zc T el) n (e x) (lo.map e) (hi.map e) H0 k):∃ v rd,Eff P o e H0 rd [] [] v∧k v rd [] []:=by
  have hau:=zky ha
  have hso:=fun w=>zcx hT hsz w
  unfold zou at hk
  split at hk
  · rename_i g off hxe
    split at hk
    · rename_i a b' hl
      split at hk
      · rename_i sz cells hg
        obtain ⟨rfl,hlen,h0,h1,h2,hk⟩:=hk
        refine ⟨_,_,Eff.read fun A ρ H w ev s hr hrd => ?_,hk⟩
        have hH:H g=some (.row (zc T el) cells):=by rw [hrd g (by simp)]; exact hg
        have r1:=hr x (by simp [Op.operands,ho])
        rw [hxe] at r1
        generalize hcv:ev x=cv at r1
        cases r1 with
        | ptr _ _ ad hA had =>
          subst had
          obtain ⟨c,el',lo',hi',_,_,_,hs,hbl,_⟩:=s.obj g _ hH
          obtain ⟨q1,q2⟩:=zjl (e:=e) (K:=Kof ρ H w) (ρ:=ρ) (A:=A) (ev:=ev) (lo:=lo) fun y hy=>hr y (by simp [Op.operands,ho,hy])
          obtain ⟨q3,q4⟩:=zjl (e:=e) (K:=Kof ρ H w) (ρ:=ρ) (A:=A) (ev:=ev) (lo:=hi) fun y hy=>hr y (by simp [Op.operands,ho,hy])
          have hrun:=zmv (P:=P) (isS:=false) q1 q2 q3 q4 hl h0 h1 h2 (Nat.le_refl _) w
          refine ⟨.slice (some (if n=a.toNat then ⟨(ρ g).block,(ρ g).base+off,none⟩ else (⟨(ρ g).block,(ρ g).base+off,none⟩:Addr).add (a.toNat*zc T el))) (b'.toNat - a.toNat) (n - a.toNat),?_,?_⟩
          · simp [execOp,ho,hcv,Instr.sliceAt,Instr.slice,Sem.run_bind,Sem.run_pure,run_underlying hu,run_underlying hau,hso,hrun,asAddr]
          · have e1:b'.toNat - a.toNat=(b' - a).toNat:=by omega
            rw [e1]
            refine .slc g _ _ _ _ hA (by omega) fun hc => ?_
            rw [if_neg (by omega),zbk,← hs]
            refine ⟨?_,by rw [Nat.add_assoc]⟩
            have e2:n*zc T el=a.toNat*zc T el+(n - a.toNat)*zc T el:=by rw [← Nat.add_mul]; congr 1; omega
            omega
      · exact hk.elim
    · exact hk.elim
  · exact hk.elim
theorem zsp {K:zj} {ρ:Nat→Loc} {A:Nat→Prop}:∀ {news:List AV} {us:List Value} {s:List UInt8},LRel K ρ A news us→bytesOf? news=some s→∃ ns:List Int,us=ns.map (Value.int .u8)∧s=ns.map fun n=>UInt8.ofNat n.toNat
  | [],us,s,h,hb=>by
    have:us=[]:=List.eq_nil_of_length_eq_zero (by simpa using h.1)
    subst this
    simp only [bytesOf?, Option.some.injEq] at hb
    subst hb
    exact ⟨[],rfl,rfl⟩
  | x :: r, us,s,h,hb=>by
    cases x with
    | int ki n =>
      cases ki with
      | u8 =>
        simp only [bytesOf?, Option.map_eq_some_iff] at hb
        obtain ⟨s',hb',rfl⟩:=hb
        match us,h with
        | [],h=>exact absurd h.1 (by simp)
        | u :: us,h =>
          have h0:=h.2 0 _ _ rfl rfl
          cases h0
          obtain ⟨ns,rfl,rfl⟩:=zsp (news:=r) (us:=us) ⟨by simpa using h.1,fun j v c hv hc=>h.2 (j+1) v c (by simpa using hv) (by simpa using hc)⟩ hb'
          exact ⟨n :: ns,rfl,rfl⟩
      | _=>simp [bytesOf?] at hb
    | _=>simp [bytesOf?] at hb
theorem zxw {K:zj} {ρ:Nat→Loc} {A:Nat→Prop} {x:AV} {cx:Value} {m:Nat} {news:List AV} {rd:List Nat} (hx:VRel K ρ A x cx) (hns:∀ l,x ≠ .str l) (h:zh 1 H0 x=some (m,news,rd)):∃ ad c,cx=.slice ad m c:=by
  unfold zh at h
  split at h
  · cases h; cases hx; exact ⟨_,_,rfl⟩
  · cases h; cases hx; exact ⟨_,_,rfl⟩
  · exact absurd rfl (hns _)
  · split at h
    · cases h
      cases hx with
      | ro _ a len cap sz b off C e1=>subst e1; exact ⟨_,_,rfl⟩
    · cases h
  · split at h
    · split at h
      · cases h; cases hx; exact ⟨_,_,rfl⟩
      · cases h
    · cases h
  · cases h
theorem zxg {ss d el:Nat} {x:Operand} (hs:P.underlying ss=some (.slice el)) (hd:P.underlying d=some .string) (he:P.underlying el=some (.int .u8)) (ho:o.op=.convert ss d x) {k:Kt} (hk:zov (e x) H0 k) :
    ∃ v rd,Eff P o e H0 rd [] [] v∧k v rd [] []:=by
  have key:∀ (m:Nat) (news:List AV) (rd:List Nat) (s:List UInt8),(∀ l,e x ≠ .str l)→zh 1 H0 (e x)=some (m,news,rd)→bytesOf? news=some s→Eff P o e H0 rd [] [] (.str s):=by
    intro m news rd s hns hsrc hb
    refine Eff.read fun A ρ H w ev sm hr hrd => ?_
    have r1:=hr x (by simp [Op.operands,ho])
    obtain ⟨us,hL,hS⟩:=zkf (P:=P) (by decide) sm r1 hsrc hrd
    obtain ⟨ns,rfl,rfl⟩:=zsp hL hb
    have hfc:=hS.2.2 m w (Nat.le_refl _) rfl
    have hlen:(ns.map (Value.int .u8)).length=m*1:=hS.1
    rw [List.take_of_length_le (by omega)] at hfc
    refine ⟨.string ⟨(ns.map fun n=>UInt8.ofNat n.toNat).toArray⟩,?_,.str _⟩
    obtain ⟨ad,c,hcv⟩:=zxw r1 hns hsrc
    rw [hcv] at hfc
    simp only [execOp,ho,hcv,Sem.run_bind,Sem.run_pure]
    cases ad with
    | none =>
      simp only [Builtin.firstCells,Sem.run_pure,Result.ok.injEq,and_true] at hfc
      have hn:ns=[]:=by
        have:=congrArg Array.size hfc
        simp at this
        exact List.eq_nil_of_length_eq_zero this.symm
      subst hn
      rw [run_convert_bytes_nil w ss el hs he m c d hd]
      rfl
    | some a =>
      simp only [Builtin.firstCells,Nat.mul_one] at hfc
      rw [run_convert_bytes_string w ss d el (some a) m c hs he hd,run_bytesToString w a m c ns hfc,foldl_push_bytes]
      simp [ByteArray.empty,ByteArray.emptyWithCapacity]
      rfl
  unfold zov at hk
  split at hk
  · exact hk.elim
  · rename_i hne
    split at hk
    · rename_i m news rd hsrc
      split at hk
      · rename_i s hb
        exact ⟨_,_,key m news rd s (fun l hl=>hne l hl) hsrc hb,hk⟩
      · exact hk.elim
    · exact hk.elim
theorem zxf {ss d el:Nat} {x:Operand} (hs:P.underlying ss=some .string) (hd:P.underlying d=some (.slice el)) (he:P.underlying el=some (.int .u8)) (ho:o.op=.convert ss d x) {nx:Nat} {k:Kt} (hk:zrn (e x) nx k) :
    ∃ s:List UInt8,∃ v rd,Eff P o e H0 rd [nx] [(nx,some (.row 1 (s.map fun b=>.int .u8 (b.toNat:Int))))] v∧k v rd [nx] [(nx,some (.row 1 (s.map fun b=>.int .u8 (b.toNat:Int))))]:=by
  unfold zrn at hk
  split at hk
  · rename_i s hxe
    refine ⟨s,.slc nx 0 s.length,[],Eff.new fun A ρ H w ev sm hr _ => ?_,hk⟩
    have r1:=hr x (by simp [Op.operands,ho])
    rw [hxe] at r1
    generalize hcv:ev x=cv at r1
    cases r1
    have hsz:(ByteArray.mk s.toArray).size=s.length:=by show s.toArray.size=_; simp
    have hcap:s.length≤grownCap w s.length 0 el:=grownCap_ge _ _ _ _
    have hrun:=run_bytes_of_string (P:=P) w ss d el ⟨s.toArray⟩ hs hd he
    rw [hsz] at hrun
    have hrow:(bytesRow ⟨s.toArray⟩ (grownCap w s.length 0 el)).toList=(s.map fun b=>Value.int .u8 (b.toNat:Int)) ++ List.replicate (grownCap w s.length 0 el - s.length) (.int .u8 0):=by
      simp [bytesRow,hsz]
    have hrs:(bytesRow ⟨s.toArray⟩ (grownCap w s.length 0 el)).size=grownCap w s.length 0 el:=by
      have:=congrArg List.length hrow
      simp at this
      omega
    refine ⟨.slice (some ⟨w.heap.size,0,none⟩) s.length (grownCap w s.length 0 el),.cells (bytesRow ⟨s.toArray⟩ (grownCap w s.length 0 el)) el ((bytesRow ⟨s.toArray⟩ (grownCap w s.length 0 el)).size,(bytesRow ⟨s.toArray⟩ (grownCap w s.length 0 el)).size+1),⟨w.heap.size,0,grownCap w s.length 0 el,1⟩,w.drew.alloc (.cells (bytesRow ⟨s.toArray⟩ (grownCap w s.length 0 el)) el ((bytesRow ⟨s.toArray⟩ (grownCap w s.length 0 el)).size,(bytesRow ⟨s.toArray⟩ (grownCap w s.length 0 el)).size+1)),?_,rfl,rfl,rfl,rfl,rfl,fun w' hw => ?_,fun K ρ' A' h1 h2 => ?_⟩
    · simp only [execOp,ho,hcv,Sem.run_bind,Sem.run_pure,hrun,Result.andThen_ok]
    · have hL:LRel (Kof ρ H w) ρ A (s.map fun b=>AV.int .u8 (b.toNat:Int)) ((bytesRow ⟨s.toArray⟩ (grownCap w s.length 0 el)).toList.take (s.map fun b=>AV.int .u8 (b.toNat:Int)).length):=by
        rw [hrow]
        rw [List.take_left' (by simp)]
        refine ⟨by simp,fun j v c hv hc => ?_⟩
        simp only [List.getElem?_map,Option.map_eq_some_iff] at hv hc
        obtain ⟨b,hb,rfl⟩:=hv
        obtain ⟨b',hb',rfl⟩:=hc
        rw [hb] at hb'
        obtain rfl:=Option.some.inj hb'
        exact .int _ _
      have:=zje (K:=Kof ρ H w) (ρ:=ρ) (A:=A) (sz:=1) hL (by simp; omega) (fun j hj=>by omega) hw
      rw [hrs] at this
      exact this
    · exact zhk (by omega) hcap K ρ' A' h1 h2
  · exact hk.elim
theorem zrf {mn:Bool} {x y:Operand} {tys:Array TypeId} (ho:(mn=true∧o.op=.call { callee:=.builtin .min,args := #[x,y],argTypes:=tys })∨(mn=false∧o.op=.call { callee:=.builtin .max,args := #[x,y],argTypes:=tys })) {k:Kt} (hk:zcl mn (e x) (e y) k) :
    ∃ v rd,Eff P o e H0 rd [] [] v∧k v rd [] []:=by
  unfold zcl at hk
  split at hk
  · rename_i ki a kj b hx hy
    obtain ⟨rfl,hk⟩:=hk
    refine ze hk fun K ρ A w ev hr => ?_
    have r1:=hr x (by rcases ho with ⟨_,ho⟩ | ⟨_,ho⟩ <;> simp [Op.operands,Call.operands,ho])
    have r2:=hr y (by rcases ho with ⟨_,ho⟩ | ⟨_,ho⟩ <;> simp [Op.operands,Call.operands,ho])
    rw [hx] at r1
    rw [hy] at r2
    generalize hcx:ev x=cx at r1
    generalize hcy:ev y=cy at r2
    cases r1
    cases r2
    refine ⟨_,?_,.int _ _⟩
    rcases ho with ⟨rfl,ho⟩ | ⟨rfl,ho⟩
    · simp [execOp,ho,resolve,invoke,builtin,Builtin.min_,Builtin.min2,hcx,hcy,Sem.run_bind,Sem.run_pure]
    · simp [execOp,ho,resolve,invoke,builtin,Builtin.max_,Builtin.max2,hcx,hcy,Sem.run_bind,Sem.run_pure]
  · exact hk.elim
theorem zabf {x y u:Operand} {tys:Array TypeId} (ho:o.op=.call { callee:=.builtin .max,args := #[x,y,u],argTypes:=tys }) {k:Kt} (hk:MAX3 (e x) (e y) (e u) k) :
    ∃ v rd,Eff P o e H0 rd [] [] v∧k v rd [] []:=by
  unfold MAX3 zcl at hk
  split at hk
  · rename_i ki a kj b hx hy
    obtain ⟨rfl,hk⟩:=hk
    simp only [PURE] at hk
    split at hk
    · rename_i kl c kz d hv hz
      obtain ⟨rfl,hk⟩:=hk
      cases hv
      refine ze hk fun K ρ A w ev hr => ?_
      have r1:=hr x (by simp [Op.operands,Call.operands,ho])
      have r2:=hr y (by simp [Op.operands,Call.operands,ho])
      have r3:=hr u (by simp [Op.operands,Call.operands,ho])
      rw [hx] at r1
      rw [hy] at r2
      rw [hz] at r3
      generalize hcx:ev x=cx at r1
      generalize hcy:ev y=cy at r2
      generalize hcz:ev u=cz at r3
      cases r1
      cases r2
      cases r3
      refine ⟨_,?_,.int _ _⟩
      simp [execOp,ho,resolve,invoke,builtin,Builtin.max_,Builtin.max2,hcx,hcy,hcz,Sem.run_bind,Sem.run_pure]
    · exact hk.elim
  · exact hk.elim
end
end Go.Proofs.YtpllgpgdcbgalaaDoor
set_option maxRecDepth 8000
namespace Go.Proofs.YtpllgpgdcbgalaaDoor
open Go Go.RowKit
def EOk (P:Program) (T:Nat→Option AT) (eqs:Nat→Bool):Prop:=∀ t a,eqs t=true→T t=some a→EqTy P t a.zero
def noW (o:Oper):Bool:=match o.op with
  | .alloc _ | .box _ _ | .buildSlice _ _ _ | .makeMap _ _ | .makeSlice _ _ _ | .store _ _ _ | .mapUpdate _ _ _ _ | .insert _ _ _ _ | .call _ | .convert _ _ _=>false
  | _=>true
theorem zav {α:Type} {a:Array α} {l:List α} (h:a.toList=l):a=l.toArray:=by subst h; simp
theorem zri {P:Program} {T:Nat→Option AT} {eqs:Nat→Bool} (hT:TOk P T) (hE:EOk P T eqs) {o:Oper} {e:Operand→AV} {H:Heap} {nx:Nat} {k:Kt} (hk:aop T eqs e H nx o k) :
    ∃ v rd fr D,(fr=[]∨fr=[nx])∧Eff P o e H rd fr D v∧k v rd fr D∧(noW o=true→fr=[]∧D=[]):=by
  have quiet:(∃ v rd,Eff P o e H rd [] [] v∧k v rd [] [])→∃ v rd fr D,(fr=[]∨fr=[nx])∧Eff P o e H rd fr D v∧k v rd fr D∧(noW o=true→fr=[]∧D=[]):=fun ⟨v,rd,h1,h2⟩=>⟨v,rd,[],[],.inl rfl,h1,h2,fun _=>⟨rfl,rfl⟩⟩
  have writes0:noW o=false→(∃ v rd D,Eff P o e H rd [] D v∧k v rd [] D)→∃ v rd fr D,(fr=[]∨fr=[nx])∧Eff P o e H rd fr D v∧k v rd fr D∧(noW o=true→fr=[]∧D=[]):=fun hn ⟨v,rd,D,h1,h2⟩=>⟨v,rd,[],D,.inl rfl,h1,h2,fun h=>by rw [hn] at h; cases h⟩
  have news0:noW o=false→∀ ob,(∃ v rd,Eff P o e H rd [nx] [(nx,some ob)] v∧k v rd [nx] [(nx,some ob)])→∃ v rd fr D,(fr=[]∨fr=[nx])∧Eff P o e H rd fr D v∧k v rd fr D∧(noW o=true→fr=[]∧D=[]):=fun hn ob ⟨v,rd,h1,h2⟩=>⟨v,rd,[nx],_,.inr rfl,h1,h2,fun h=>by rw [hn] at h; cases h⟩
  have any0:noW o=false→(∃ v rd fr D,(fr=[]∨fr=[nx])∧Eff P o e H rd fr D v∧k v rd fr D)→∃ v rd fr D,(fr=[]∨fr=[nx])∧Eff P o e H rd fr D v∧k v rd fr D∧(noW o=true→fr=[]∧D=[]):=fun hn ⟨v,rd,fr,D,h0,h1,h2⟩=>⟨v,rd,fr,D,h0,h1,h2,fun h=>by rw [hn] at h; cases h⟩
  cases hop:o.op <;> simp only [aop,hop] at hk
  case move x=>exact quiet (zub (.inl hop) hk)
  case assign x=>exact quiet (zub (.inr hop) hk)
  case pick c a b=>exact quiet (zabd hop hk)
  case alloc t =>
    split at hk
    · rename_i a ht
      obtain ⟨i,d,z,ha⟩:=hT.at ht
      exact news0 (by simp [noW,hop]) _ (zzg ha hop hk)
    · exact hk.elim
  case box t x=>exact news0 (by simp [noW,hop]) _ (zads hop hk.1 hk.2)
  case build t ps =>
    split at hk
    · rename_i ht
      obtain ⟨i,d,z,ha⟩:=hT.at ht
      exact quiet (zql hT ha hk.1 hop hk.2)
    · rename_i ht
      obtain ⟨i,d,z,ha⟩:=hT.at ht
      exact quiet (zta hT ha hk.1 hop hk.2)
    · exact hk.elim
  case buildSlice t len ps =>
    split at hk
    · rename_i ht
      obtain ⟨i,d,z,ha⟩:=hT.at ht
      split at hk
      · rename_i a hel
        obtain ⟨i',d',z',ha'⟩:=hT.at hel
        obtain ⟨v,rd,cells,h1,h2⟩:=zxh ha ha' ha'.len hk.2.1 hk.1 hop hk.2.2
        exact news0 (by simp [noW,hop]) _ ⟨v,rd,h1,h2⟩
      · exact hk.elim
    · exact hk.elim
  case load t p =>
    split at hk
    · rename_i a ht
      obtain ⟨i,d,z,ha⟩:=hT.at ht
      exact quiet (zuc ha hop hk)
    · exact hk.elim
  case store t p x =>
    split at hk
    · rename_i a ht
      obtain ⟨i,d,z,ha⟩:=hT.at ht
      exact writes0 (by simp [noW,hop]) (zyy ha hop hk)
    · exact hk.elim
  case nilCheck x=>exact quiet (zabe hop hk)
  case binOp op t x y yt =>
    split at hk
    · exact quiet (zabq hop hk)
    · exact quiet (zabn hop hk)
    · rename_i ht
      obtain ⟨i,d,z,ha⟩:=hT.at ht
      have hkd:=ha.kind
      have hu:P.underlying t=some .bool:=by
        cases d <;> simp only [zcd] at hkd <;> cases hkd
        exact ha.und
      exact quiet (zabs hu hop hk)
    · rename_i ht
      exact quiet (zud (hE _ _ hk.1 ht) hop hk.2)
    · rename_i ht
      exact quiet (zud (hE _ _ hk.1 ht) hop hk.2)
    · rename_i ht
      obtain ⟨i,d,z,ha⟩:=hT.at ht
      have hkd:=ha.kind
      have hu:∃ el,P.underlying t=some (.pointer el):=by
        cases d <;> simp only [zcd] at hkd <;> cases hkd
        exact ⟨_,ha.und⟩
      obtain ⟨el,hu⟩:=hu
      exact quiet (zabo hu hop hk)
    · rename_i ht
      obtain ⟨i,d,z,ha⟩:=hT.at ht
      exact quiet (zabp (zaw ha) hop hk)
    · rename_i ht
      obtain ⟨i,d,z,ha⟩:=hT.at ht
      have hkd:=ha.kind
      have hu:∃ ms,P.underlying t=some (.interface ms):=by
        cases d <;> simp only [zcd] at hkd <;> cases hkd
        exact ⟨_,ha.und⟩
      obtain ⟨ms,hu⟩:=hu
      split at hk
      · exact quiet (zabr hu ⟨_,rfl⟩ hop hk)
      · exact hk.elim
    · exact hk.elim
  case unOp op t x=>exact quiet (zaep hop hk)
  case convert s d x =>
    split at hk
    · rename_i hs hd
      obtain ⟨i,d1,z,ha⟩:=hT.at hs
      obtain ⟨i',d',z',ha'⟩:=hT.at hd
      exact quiet (zzf ha.und (zoz ha') hop hk)
    · rename_i hs hd
      obtain ⟨i,d1,z,ha⟩:=hT.at hs
      obtain ⟨i',d',z',ha'⟩:=hT.at hd
      split at hk
      · rename_i hel
        obtain ⟨i'',d'',z'',ha''⟩:=hT.at hel
        exact quiet (zxg (zaw ha) (zjj ha') (zoz ha'') hop hk)
      · exact hk.elim
    · rename_i hs hd
      obtain ⟨i,d1,z,ha⟩:=hT.at hs
      obtain ⟨i',d',z',ha'⟩:=hT.at hd
      split at hk
      · rename_i hel
        obtain ⟨i'',d'',z'',ha''⟩:=hT.at hel
        obtain ⟨s',v,rd,h1,h2⟩:=zxf (zjj ha) (zaw ha') (zoz ha'') hop hk
        exact news0 (by simp [noW,hop]) _ ⟨v,rd,h1,h2⟩
      · exact hk.elim
    · exact hk.elim
  case makeFunc fn first cap =>
    split at hk
    · rename_i hf
      have hf':=Array.toList_eq_nil_iff.1 hf
      subst hf'
      exact quiet (zxe hop hk)
    · exact hk.elim
  case makeMap t r =>
    split at hk
    · exact news0 (by simp [noW,hop]) _ (zza hop hk)
    · exact hk.elim
  case makeSlice t l c =>
    split at hk
    · rename_i ht
      obtain ⟨i,d,z,ha⟩:=hT.at ht
      split at hk
      · rename_i a hel
        obtain ⟨i',d',z',ha'⟩:=hT.at hel
        obtain ⟨v,rd,cells,h1,h2⟩:=zabg ha ha' ha'.len hk.1 hop hk.2
        exact news0 (by simp [noW,hop]) _ ⟨v,rd,h1,h2⟩
      · exact hk.elim
    · exact hk.elim
  case slice t x lo hi mx =>
    split at hk
    · split at hk
      · rename_i ht
        obtain ⟨i,d,z,ha⟩:=hT.at ht
        exact quiet (zyz hT ha hk.1 hop hk.2)
      · rename_i ht
        obtain ⟨i,d,z,ha⟩:=hT.at ht
        exact quiet (zsz ha hop hk)
      · rename_i ht
        obtain ⟨i,d,z,ha⟩:=hT.at ht
        split at hk
        · rename_i har
          obtain ⟨i',d',z',ha'⟩:=hT.at har
          exact quiet (zxc hT (zacx ha) ha' hk.1 hop hk.2)
        · exact hk.elim
      · exact hk.elim
    · split at hk
      · split at hk
        · rename_i ht
          obtain ⟨i,d,z,ha⟩:=hT.at ht
          exact quiet (zxd hT ha hk.1 hop hk.2)
        · exact hk.elim
      · exact hk.elim
  case fieldAddr t x f =>
    split at hk
    · rename_i ht
      obtain ⟨i,d,z,ha⟩:=hT.at ht
      split at hk
      · rename_i hp
        exact quiet (zze hT ha hp hk.1 hop hk.2)
      · exact hk.elim
    · exact hk.elim
  case field t x f =>
    split at hk
    · rename_i ht
      obtain ⟨i,d,z,ha⟩:=hT.at ht
      split at hk
      · rename_i hf
        split at hk
        · rename_i a hft
          obtain ⟨i',d',z',ha'⟩:=hT.at hft
          exact quiet (zzd ha hf ha' hop hk)
        · exact hk.elim
      · exact hk.elim
    · exact hk.elim
  case indexAddr t x ix =>
    split at hk
    · rename_i ht
      obtain ⟨i,d,z,ha⟩:=hT.at ht
      exact quiet (zzc hT ha hk.1 hop hk.2)
    · rename_i ht
      obtain ⟨i,d,z,ha⟩:=hT.at ht
      exact quiet (zzh hT ha hk.1 hop hk.2)
    · exact hk.elim
  case index t x ix =>
    split at hk
    · rename_i ht
      obtain ⟨i,d,z,ha⟩:=hT.at ht
      exact quiet (zzb ha hop hk)
    · rename_i ht
      obtain ⟨i,d,z,ha⟩:=hT.at ht
      split at hk
      · rename_i a hel
        obtain ⟨i',d',z',ha'⟩:=hT.at hel
        exact quiet (zxj ha ha' hop hk)
      · exact hk.elim
    · exact hk.elim
  case lookup t m key ok =>
    split at hk
    · rename_i ht
      obtain ⟨i,d,z,ha⟩:=hT.at ht
      split at hk
      · rename_i a ka hel hkt
        obtain ⟨i',d',z',ha'⟩:=hT.at hel
        obtain ⟨i'',d'',z'',ha''⟩:=hT.at hkt
        refine quiet (zabh ha ha' ha'' hk.1 (fun hag => ?_) hop hk.2)
        have h1:=ha'.agg
        rw [hag] at h1
        rw [ha'.cells]
        cases z' <;> simp only [zos] at h1 <;> first | rfl | cases h1
      · exact hk.elim
    · exact hk.elim
  case mapUpdate t m key v =>
    split at hk
    · rename_i ht
      obtain ⟨i,d,z,ha⟩:=hT.at ht
      split at hk
      · rename_i ka hkt
        obtain ⟨i'',d'',z'',ha''⟩:=hT.at hkt
        exact writes0 (by simp [noW,hop]) (zua ha ha'' hk.1 (.inl hop) hk.2)
      · exact hk.elim
    · exact hk.elim
  case insert t m key v =>
    split at hk
    · rename_i ht
      obtain ⟨i,d,z,ha⟩:=hT.at ht
      split at hk
      · rename_i ka hkt
        obtain ⟨i'',d'',z'',ha''⟩:=hT.at hkt
        exact writes0 (by simp [noW,hop]) (zua ha ha'' hk.1 (.inr hop) hk.2)
      · exact hk.elim
    · exact hk.elim
  case extract x i=>exact quiet (zabl hop hk)
  case call c =>
    obtain ⟨cl,ar,tys⟩:=c
    simp only at hk
    split at hk
    all_goals first | exact hk.elim | skip
    · rename_i h1 h2
      obtain rfl:=(zav h1)
      obtain rfl:=(zav h2)
      split at hk
      · rename_i ht
        obtain ⟨i,d,z,ha⟩:=hT.at ht
        exact quiet (zabi ha hop hk)
      · rename_i ht
        obtain ⟨i,d,z,ha⟩:=hT.at ht
        exact quiet (zabk ha hop hk)
      · rename_i ht
        obtain ⟨i,d,z,ha⟩:=hT.at ht
        exact quiet (zabj ha hop hk)
      · exact hk.elim
    · rename_i h1 h2
      obtain rfl:=(zav h1)
      obtain rfl:=(zav h2)
      exact quiet (zrf (.inl ⟨rfl,hop⟩) hk)
    · rename_i h1 h2
      obtain rfl:=(zav h1)
      obtain rfl:=(zav h2)
      exact quiet (zrf (.inr ⟨rfl,hop⟩) hk)
    · rename_i h1 h2
      obtain rfl:=(zav h1)
      obtain rfl:=(zav h2)
      exact quiet (zabf hop hk)
    · rename_i h1 h2
      obtain rfl:=(zav h1)
      obtain rfl:=(zav h2)
      split at hk
      · rename_i ht
        obtain ⟨i,d,z,ha⟩:=hT.at ht
        split at hk
        · rename_i a hel
          obtain ⟨i',d',z',ha'⟩:=hT.at hel
          exact any0 (by simp [noW,hop]) (zxi hT ha ha' ha'.len hk.1 hk.2.1 hk.2.2.1 hop hk.2.2.2)
        · exact hk.elim
      · exact hk.elim
    · rename_i h1 h2
      obtain rfl:=(zav h1)
      obtain rfl:=(zav h2)
      split at hk
      · rename_i ht
        obtain ⟨i,d,z,ha⟩:=hT.at ht
        split at hk
        · rename_i a hel
          obtain ⟨i',d',z',ha'⟩:=hT.at hel
          exact writes0 (by simp [noW,hop]) (zabm ha ha' hk.1 hop hk.2)
        · exact hk.elim
      · exact hk.elim
  all_goals exact hk.elim
theorem zzp {P:Program} {T:Nat→Option AT} {eqs:Nat→Bool} (hT:TOk P T) (hE:EOk P T eqs) {o:Oper} {e:Operand→AV} {H:Heap} {nx:Nat} {k:Kt} (hk:aop T eqs e H nx o k) :
    ∃ v rd fr D,(fr=[]∨fr=[nx])∧Eff P o e H rd fr D v∧k v rd fr D :=
  let ⟨v,rd,fr,D,h1,h2,h3,_⟩:=zri hT hE hk
  ⟨v,rd,fr,D,h1,h2,h3⟩
end Go.Proofs.YtpllgpgdcbgalaaDoor
set_option maxRecDepth 8000
namespace Go.Proofs.YtpllgpgdcbgalaaDoor
open Go Go.RowKit
def gd (b:Bool) (A:Prop):Prop:=match b with | true=>A | false=>False
theorem ztv {b:Bool} {A:Prop}:gd b A↔b=true∧A:=by cases b <;> simp [gd]
def qk (k:AV→Prop):Kt:=fun v _ _ _=>k v
def PK (c a b:AV) (k:AV→Prop):Prop:=match c with | .bool t=>k (bif t then a else b) | _=>False
def LD (agg:Bool) (sz:Nat) (p:AV) (H:Heap) (k:AV→Prop):Prop:=LOAD agg sz p H (qk k)
def ST (sz:Nat) (p v:AV) (H:Heap) (k:Heap→Prop):Prop:=zag sz p v H fun _ _ _ D=>k (H.apply D)
def NC (x:AV) (k:AV→Prop):Prop:=NILC x (qk k)
def FA (off:Nat) (p:AV) (k:AV→Prop):Prop:=zph off p (qk k)
def FI (agg:Bool) (sz off:Nat) (x:AV) (k:AV→Prop):Prop:=zfn agg sz off x (qk k)
def IA (esz:Nat) (x i:AV) (k:AV→Prop):Prop:=zpf esz x i (qk k)
def AA (esz len:Nat) (p i:AV) (k:AV→Prop):Prop:=zpj esz len p i (qk k)
def IX (x i:AV) (k:AV→Prop):Prop:=zpe x i (qk k)
def AI (agg:Bool) (esz len:Nat) (x i:AV) (k:AV→Prop):Prop:=zkm agg esz len x i (qk k)
def LNS (x:AV) (k:AV→Prop):Prop:=LENS x (qk k)
def LNL (x:AV) (k:AV→Prop):Prop:=LENL x (qk k)
def LNM (x:AV) (H:Heap) (k:AV→Prop):Prop:=LENM x H (qk k)
def EX (x:AV) (i:Nat) (k:AV→Prop):Prop:=EXTR x i (qk k)
def BD (place:Nat→Option (Nat×Nat)) (zero:List AV) (parts:List (Nat×AV)) (k:AV→Prop):Prop:=zhi place zero parts (qk k)
def BSL (len esz:Nat) (zero:List AV) (parts:List (Nat×AV)) (k:List AV→Prop):Prop :=
  match zbt (fun i=>some (i*esz,esz)) ((List.replicate len zero).flatten) parts with
  | some cells=>k cells
  | none=>False
def BI (op:BinOp) (x y:AV) (k:AV→Prop):Prop:=BINI op x y (qk k)
def BS (op:BinOp) (x y:AV) (k:AV→Prop):Prop:=BINS op x y (qk k)
def BB (op:BinOp) (x y:AV) (k:AV→Prop):Prop:=BINB op x y (qk k)
def BA (zs:List AV) (op:BinOp) (x y:AV) (k:AV→Prop):Prop:=BINA zs op x y (qk k)
def BP (op:BinOp) (x y:AV) (k:AV→Prop):Prop:=BINP op x y (qk k)
def BL (op:BinOp) (x y:AV) (k:AV→Prop):Prop:=BINL op x y (qk k)
def BF (op:BinOp) (x y:AV) (k:AV→Prop):Prop:=BINF op x y (qk k)
def UO (op:UnOp) (x:AV) (k:AV→Prop):Prop:=UN op x (qk k)
def CV (ki:IntKind) (x:AV) (k:AV→Prop):Prop:=zpi ki x (qk k)
def SL (esz:Nat) (x:AV) (lo hi:Option AV) (H:Heap) (k:AV→Prop):Prop:=zkz esz x lo hi H (qk k)
def SLP (esz n:Nat) (x:AV) (lo hi:Option AV) (H:Heap) (k:AV→Prop):Prop:=zou esz n x lo hi H (qk k)
def CBS (x:AV) (H:Heap) (k:AV→Prop):Prop:=zov x H (qk k)
def CSB (x:AV) (k:List UInt8→Prop):Prop:=match x with
  | .str s=>k s
  | _=>False
def MM (mn:Bool) (x y:AV) (k:AV→Prop):Prop:=zcl mn x y (qk k)
def MX3 (x y z:AV) (k:AV→Prop):Prop:=MAX3 x y z (qk k)
def SLS (x:AV) (lo hi:Option AV) (k:AV→Prop):Prop:=zgj x lo hi (qk k)
def SL0 (x lo hi mx:AV) (k:AV→Prop):Prop:=zmk x lo hi mx (qk k)
def MK (bytes:Nat) (l c:AV) (k:Nat→Prop):Prop:=match l,c with
  | .int _ n,.int _ m=>m=n∧0≤n∧n≤140737488355328∧n.toNat*bytes≤140737488355328∧k n.toNat
  | _,_=>False
def LK (zero:List AV) (agg:Bool) (m key:AV) (ok:Bool) (H:Heap) (k:AV→Prop):Prop:=LOOK zero agg m key ok H (qk k)
def MU (m key v:AV) (H:Heap) (k:Heap→Prop):Prop:=MUPD m key v H fun _ _ _ D=>k (H.apply D)
def APP (esz bytes:Nat) (s x:AV) (H:Heap) (nx:Nat) (k:AV→Heap→Nat→Prop):Prop:=zad esz bytes s x H nx fun v _ fr D=>k v (H.apply D) (nx+fr.length)
def CP (esz:Nat) (d x:AV) (H:Heap) (k:AV→Heap→Prop):Prop:=COPY esz d x H fun v _ _ D=>k v (H.apply D)
section
variable (T:Nat→Option AT) (eqs:Nat→Bool)
def sop (e:Operand→AV) (H:Heap) (nx:Nat) (o:Oper) (k:AV→Heap→Nat→Prop):Prop :=
  match o.op with
  | .move x | .assign x=>k (e x) H nx
  | .pick c a b=>PK (e c) (e a) (e b) fun v=>k v H nx
  | .alloc t=>match T t with | some a=>k (.ptr nx 0) (H.put nx (some (.row (zwj T a) a.zero))) (nx+1) | none=>False
  | .box _ v=>(e v).sure=true∧k (.ptr nx 0) (H.put nx (some (.row (e v).cells.length (e v).cells))) (nx+1)
  | .build t ps=>match T t with
    | some ⟨.struct fs,_,_,zero⟩=>gd (fs.all fun p=>zc T p.1 != 0) <| BD (zl T fs) zero (ps.toList.map fun p=>(p.1,e p.2)) fun v=>k v H nx
    | some ⟨.array _ el,_,_,zero⟩=>gd (zc T el != 0) <| BD (fun i=>some (i*zc T el,zc T el)) zero (ps.toList.map fun p=>(p.1,e p.2)) fun v=>k v H nx
    | _=>False
  | .buildSlice t len ps=>match T t with
    | some ⟨.slice el,_,_,_⟩=>match T el with
      | some a=>gd (Nat.ble (len*a.size) 16777216 && Nat.blt 0 a.size) <| BSL len a.size a.zero (ps.toList.map fun p=>(p.1,e p.2)) fun cells=>k (zv eqs t len nx) (H.put nx (some (.row a.size cells))) (nx+1)
      | none=>False
    | _=>False
  | .load t p=>match T t with | some a=>LD a.kind.isAgg a.size (e p) H fun v=>k v H nx | none=>False
  | .store t p v=>match T t with | some a=>ST a.size (e p) (e v) H fun H=>k .und H nx | none=>False
  | .nilCheck x=>NC (e x) fun v=>k v H nx
  | .binOp op t x y _=>match T t with
    | some ⟨.int _,_,_,_⟩=>BI op (e x) (e y) fun v=>k v H nx
    | some ⟨.str,_,_,_⟩=>BS op (e x) (e y) fun v=>k v H nx
    | some ⟨.bool,_,_,_⟩=>BB op (e x) (e y) fun v=>k v H nx
    | some ⟨.struct _,_,_,zs⟩=>gd (eqs t) <| BA zs op (e x) (e y) fun v=>k v H nx
    | some ⟨.array _ _,_,_,zs⟩=>gd (eqs t) <| BA zs op (e x) (e y) fun v=>k v H nx
    | some ⟨.ptr _,_,_,_⟩=>BP op (e x) (e y) fun v=>k v H nx
    | some ⟨.slice _,_,_,_⟩=>BL op (e x) (e y) fun v=>k v H nx
    | some ⟨.iface,_,_,_⟩=>match y with | .const _=>BF op (e x) (e y) fun v=>k v H nx | _=>False
    | _=>False
  | .unOp op _ x=>UO op (e x) fun v=>k v H nx
  | .convert s d x=>match T s,T d with
    | some ⟨.int _,_,_,_⟩,some ⟨.int kd,_,_,_⟩=>CV kd (e x) fun v=>k v H nx
    | some ⟨.slice el,_,_,_⟩,some ⟨.str,_,_,_⟩=>match T el with
      | some ⟨.int .u8,_,_,_⟩=>CBS (e x) H fun v=>k v H nx
      | _=>False
    | some ⟨.str,_,_,_⟩,some ⟨.slice el,_,_,_⟩=>match T el with
      | some ⟨.int .u8,_,_,_⟩=>CSB (e x) fun s=>k (.slc nx 0 s.length) (H.put nx (some (.row 1 (s.map fun b=>.int .u8 (b.toNat:Int))))) (nx+1)
      | _=>False
    | _,_=>False
  | .makeFunc fn first cap=>match fn,first.toList with
    | .func f,[]=>k (.clo f (cap.toList.map e)) H nx
    | _,_=>False
  | .makeMap _ r=>match r with
    | none=>k (.amap nx) (H.put nx (some (.mp []))) (nx+1)
    | some _=>False
  | .makeSlice t l c=>match T t with
    | some ⟨.slice el,_,_,_⟩=>match T el with
      | some a=>gd (Nat.blt 0 a.size) <| MK a.bytes (e l) (e c) fun n=>k (.slc nx 0 n) (H.put nx (some (.row a.size ((List.replicate n a.zero).flatten)))) (nx+1)
      | none=>False
    | _=>False
  | .slice t x lo hi mx=>match mx with
    | none=>match T t with
      | some ⟨.slice el,_,_,_⟩=>gd (zc T el != 0) <| SL (zc T el) (e x) (lo.map e) (hi.map e) H fun v=>k v H nx
      | some ⟨.str,_,_,_⟩=>SLS (e x) (lo.map e) (hi.map e) fun v=>k v H nx
      | some ⟨.ptr ar,_,_,_⟩=>match T ar with
        | some ⟨.array n el,_,_,_⟩=>gd (zc T el != 0) <| SLP (zc T el) n (e x) (lo.map e) (hi.map e) H fun v=>k v H nx
        | _=>False
      | _=>False
    | some mx=>match lo,hi with
      | some lo,some hi=>match T t with
        | some ⟨.slice el,_,_,_⟩=>gd (zc T el != 0) <| SL0 (e x) (e lo) (e hi) (e mx) fun v=>k v H nx
        | _=>False
      | _,_=>False
  | .fieldAddr t x f=>match T t with
    | some ⟨.struct fs,_,_,_⟩=>match zl T fs f with | some (off,sz)=>gd (sz != 0) <| FA off (e x) fun v=>k v H nx | none=>False
    | _=>False
  | .field t x f=>match T t with
    | some ⟨.struct fs,_,_,_⟩=>match fs[f]? with
      | some (ft,off)=>match T ft with | some a=>FI a.kind.isAgg a.size off (e x) fun v=>k v H nx | none=>False
      | none=>False
    | _=>False
  | .indexAddr t x i=>match T t with
    | some ⟨.slice el,_,_,_⟩=>gd (zc T el != 0) <| IA (zc T el) (e x) (e i) fun v=>k v H nx
    | some ⟨.array n el,_,_,_⟩=>gd (zc T el != 0) <| AA (zc T el) n (e x) (e i) fun v=>k v H nx
    | _=>False
  | .index t x i=>match T t with
    | some ⟨.str,_,_,_⟩=>IX (e x) (e i) fun v=>k v H nx
    | some ⟨.array n el,_,_,_⟩=>match T el with | some a=>AI a.kind.isAgg a.size n (e x) (e i) fun v=>k v H nx | none=>False
    | _=>False
  | .lookup t m key ok=>match T t with
    | some ⟨.map kt el,_,_,_⟩=>match T el,T kt with | some a,some ka=>zn ka.kind (e key)=true∧LK a.zero a.kind.isAgg (e m) (e key) ok H fun v=>k v H nx | _,_=>False
    | _=>False
  | .mapUpdate t m key v | .insert t m key v=>match T t with
    | some ⟨.map kt _,_,_,_⟩=>match T kt with | some ka=>zn ka.kind (e key)=true∧MU (e m) (e key) (e v) H fun H=>k .und H nx | none=>False
    | _=>False
  | .extract x i=>EX (e x) i fun v=>k v H nx
  | .call c=>match c.callee,c.args.toList,c.argTypes.toList with
    | .builtin .len,[x],[t]=>match T t with
      | some ⟨.str,_,_,_⟩=>LNS (e x) fun v=>k v H nx
      | some ⟨.slice _,_,_,_⟩=>LNL (e x) fun v=>k v H nx
      | some ⟨.map _ _,_,_,_⟩=>LNM (e x) H fun v=>k v H nx
      | _=>False
    | .builtin .min,[x,y],[_,_]=>MM true (e x) (e y) fun v=>k v H nx
    | .builtin .max,[x,y],[_,_]=>MM false (e x) (e y) fun v=>k v H nx
    | .builtin .max,[x,y,z],[_,_,_]=>MX3 (e x) (e y) (e z) fun v=>k v H nx
    | .builtin .append,[s,x],[t,t2]=>match T t with
      | some ⟨.slice el,_,_,_⟩=>match T el with | some a=>gd (Nat.blt 0 a.size && Nat.blt 0 a.bytes && (zki T t2 || zmz T t2)) <| APP a.size a.bytes (e s) (srcV T t2 a.zero (e x)) H nx k | none=>False
      | _=>False
    | .builtin .copy,[d,x],[t,_]=>match T t with
      | some ⟨.slice el,_,_,_⟩=>match T el with | some a=>gd (Nat.blt 0 a.size) <| CP a.size (e d) (e x) H fun v H=>k v H nx | none=>False
      | _=>False
    | _,_,_=>False
  | _=>False
theorem zacq {e:Operand→AV} {H:Heap} {nx:Nat} {o:Oper} {k:AV→Heap→Nat→Prop} (h:sop T eqs e H nx o k):aop T eqs e H nx o fun v _ fr D=>k v (H.apply D) (nx+fr.length):=by
  cases hop:o.op <;> simp only [sop,hop] at h <;> simp only [aop,hop]
  all_goals first | exact h | exact h.elim | skip
  all_goals
    repeat' split at h
    all_goals try simp only [ztv,bne_iff_ne,Bool.and_eq_true,Nat.blt_eq,Nat.ble_eq] at h
    all_goals try simp only [and_assoc] at h
  all_goals first | exact h.elim | (revert h; simp only [*]; intro h; exact h) | (revert h; simp only [*]; exact id) | skip
end
end Go.Proofs.YtpllgpgdcbgalaaDoor
set_option maxRecDepth 8000
namespace Go.Proofs.YtpllgpgdcbgalaaDoor
open Go Go.RowKit
section
variable {P:Program}
def zcc (es:Array MapEntry) (seen:Array Nat):Array MapEntry:=es.filter fun e=>!seen.contains e.born
theorem zmx {es:Array MapEntry} {seen:Array Nat} {e:MapEntry}:e∈zcc es seen↔e∈es∧e.born∉seen:=by simp [zcc]
theorem zuh (n:Nat) (hn:0 < n) (w:World):∃ (j:Nat) (w1:World),j < n∧w1.heap=w.heap∧w1.os=w.os∧w1.tape=w.tape∧w1.output=w.output∧(choose (Question.mapNext n)).run P w=.ok j w1:=by
  by_cases h:n≤1
  · exact ⟨0,w,hn,rfl,rfl,rfl,rfl,by simp [choose,Sem.run,Question.forced,h]⟩
  · refine ⟨w.tape w.drawn (.mapNext n) % n,w.drew,Nat.mod_lt _ hn,rfl,rfl,rfl,rfl,?_⟩
    simp only [choose,Sem.run,Question.forced,decide_eq_true_eq,h,if_false,Question.cut]
    rfl
theorem zyn {w:World} {ty r bm c:Nat} {tg:Option Nat} {seen:Array Nat} {es:Array MapEntry} (hi:w.heap[r]? = some (.mapIter (some bm) c seen c)) (hb:w.heap[bm]? = some (.map es c)) (hold:∀ x∈es.toList,x.born < c) (htg:tg=none) :
    ((∀ e∈es,e.born∈seen)∧(Instr.next (.pointer (some ⟨r,0,none⟩)) false ty).run P w=.ok (.tuple #[.bool false]) w) ∨
    ∃ e∈es,e.born∉seen∧∃ w1:World,w1.heap=w.heap.setIfInBounds r (.mapIter (some bm) c (seen.push e.born) c)∧w1.os=w.os∧w1.tape=w.tape∧w1.output=w.output ∧
      (Instr.next (.pointer (some ⟨r,0,none⟩)) false ty).run P w=.ok (.tuple #[.bool true,e.key,e.val]) w1:=by
  have htest:(!seen.isEmpty && !es.isEmpty && es.all (fun x=>decide (x.born≥c)))=false:=by
    cases he:es.isEmpty with
    | true=>simp
    | false =>
      have h0:0 < es.size:=by
        rcases Nat.eq_zero_or_pos es.size with h0 | h0
        · simp [Array.isEmpty,h0] at he
        · exact h0
      have hall:es.all (fun x=>decide (x.born≥c))=false:=by
        rw [Bool.eq_false_iff]
        intro h
        rw [Array.all_eq_true_iff_forall_mem] at h
        have h1:=h _ (Array.getElem_mem h0)
        have h2:=hold es[0] (by simp)
        simp at h1
        omega
      simp [hall]
  have hmem:∀ x∈zcc es seen,x.born < c:=fun x hx=>hold x (by simpa using (zmx.1 hx).1)
  have e1:(zcc es seen).filter (fun x=>decide (x.born < c))=zcc es seen:=Array.filter_eq_self.2 (fun x hx=>by simpa using hmem x hx)
  have e2:(zcc es seen).filter (fun x=>decide (x.born≥c)) = #[]:=by
    rw [Array.filter_eq_empty_iff]
    intro x hx
    have:=hmem x hx
    simp; omega
  have hL:Array.filter (fun e=>!seen.contains e.born) es=zcc es seen:=rfl
  by_cases h0:(zcc es seen).size=0
  · left
    have he:zcc es seen = #[]:=Array.eq_empty_of_size_eq_zero h0
    refine ⟨fun e hm => ?_,?_⟩
    · rcases Classical.em (e.born∈seen) with h | h
      · exact h
      · have:=zmx.2 ⟨hm,h⟩
        rw [he] at this
        simp at this
    · simp only [Instr.next,getObj,Sem.run_bind,Sem.run,hi,hb,Result.andThen_ok,htest,Bool.false_eq_true,if_false,hL,e1,e2,he]
      simp [choose,Sem.run,Question.forced]
  · right
    obtain ⟨j,w1,hj,a1,a2,a3,a4,hrun⟩:=zuh (P:=P) (zcc es seen).size (by omega) w
    have hin:(zcc es seen)[j]∈zcc es seen:=Array.getElem_mem hj
    obtain ⟨m1,m2⟩:=zmx.1 hin
    refine ⟨(zcc es seen)[j],m1,m2,{ w1 with heap:=w1.heap.setIfInBounds r (.mapIter (some bm) c (seen.push (zcc es seen)[j].born) c) },by simp only [a1],a2,a3,a4,?_⟩
    have hne:(zcc es seen).isEmpty=false:=by simp [Array.isEmpty,h0]
    have hset:∀ o',(setObj r o').run P w1=.ok () { w1 with heap:=w1.heap.setIfInBounds r o' }:=fun o'=>by simp [setObj,Sem.run,a1,hi]
    simp only [Instr.next,getObj,Sem.run_bind,Sem.run,hi,hb,Result.andThen_ok,htest,Bool.false_eq_true,if_false,hL,e1,e2,hne,Array.append_empty,Array.empty_append,Array.size_map,hrun,Array.getElem?_map,Array.getElem?_eq_getElem hj,Option.map_some,hset]
    rfl
theorem zoh {e:MapEntry}:∀ {l:List MapEntry},(l.map (·.born)).Nodup→e∈l→l.find? (fun x=>x.born == e.born)=some e
  | x :: l,hn,he=>by
    simp only [List.map_cons,List.nodup_cons] at hn
    rcases List.mem_cons.1 he with rfl | h
    · simp
    · have hx:(x.born == e.born)=false:=by
        rw [beq_eq_false_iff_ne]
        intro hc
        exact hn.1 (hc ▸ List.mem_map.2 ⟨e,h,rfl⟩)
      rw [List.find?_cons,hx]
      exact zoh hn.2 h
theorem zxb {w:World} {r bm c:Nat} {seen:Array Nat} {es:Array MapEntry} {e:MapEntry} (hi:w.heap[r]? = some (.mapIter (some bm) c seen c)) (hb:w.heap[bm]? = some (.map es c)) (hn:(es.toList.map (·.born)).Nodup) (he:e∈es) (hs:seen.back? = some e.born) :
    (Instr.entry (.pointer (some ⟨r,0,none⟩))).run P w=.ok (.tuple #[e.key,e.val]) w:=by
  have hf:es.find? (fun x=>x.born == e.born)=some e:=by rw [← Array.find?_toList]; exact zoh hn (by simpa using he)
  simp only [Instr.entry,getObj,Sem.run_bind,Sem.run,hi,hb,Result.andThen_ok,hs,bne_self_eq_false,Bool.false_eq_true,if_false,hf]
  rfl
theorem zwl {w:World} {t k e bm c:Nat} {es:Array MapEntry} (ht:P.underlying t=some (.map k e)) (hb:w.heap[bm]? = some (.map es c)) :
    (Instr.range t (.map (some bm))).run P w=.ok (.pointer (some ⟨w.heap.size,0,none⟩)) (w.alloc (.mapIter (some bm) c #[] c)):=by
  simp only [Instr.range,getObj,Sem.run_bind,Sem.run,run_underlying ht,hb,Result.andThen_ok,newObj,Sem.run_pure]
  rfl
end
section
variable {P:Program} {o:Oper} {e:Operand→AV} {H0:Heap} {x:Operand}
theorem zyg {t kt el g nx:Nat} {es:List (AV×AV)} (hx:e x=.amap g) (hg:H0 g=some (.mp es)) (hu:P.underlying t=some (.map kt el)) (hop:o.op=.range t x) :
    Eff P o e H0 [g] [nx] [(nx,some (.it g es.length []))] (.ptr nx 0):=by
  refine Eff.new fun A ρ H w ev s hv hrd => ?_
  have hH:H g=some (.mp es):=by rw [hrd g (by simp)]; exact hg
  have r1:=hv x (by simp [Op.operands,hop])
  rw [hx] at r1
  generalize hcv:ev x=cv at r1
  cases r1 with
  | amap _ r hA hr =>
    subst hr
    obtain ⟨en,cl,q1,q2,q3,q4⟩:=s.obj g _ hH
    have hrun:=zwl (P:=P) (w:=w) (t:=t) hu q1
    have hc:cl=es.length:=by rw [q4.1,q2]
    rw [hc] at hrun
    have e0:execOp ev o=(do pure (Next.value (← Instr.range t (ev x)))):=by simp only [execOp,hop]
    refine ⟨.pointer (some ⟨w.heap.size,0,none⟩),.mapIter (some (ρ g).block) es.length #[] es.length,⟨w.heap.size,0,0,0⟩,w.alloc (.mapIter (some (ρ g).block) es.length #[] es.length),?_,rfl,rfl,rfl,rfl,rfl,fun w' hw=>⟨rfl,hw,hA⟩,fun K ρ' A' h1 h2=>.ptr nx 0 _ h2 (by rw [h1])⟩
    rw [e0,hcv]
    simp only [Sem.run_bind,hrun,Result.andThen_ok,Sem.run_pure]
theorem zaaj {A:Nat→Prop} {ρ:Nat→Loc} {H:Heap} {w:World} {ev:Operand→Value} {y g n:Nat} {seen:List Nat} {es:List (AV×AV)} (s:Sim A ρ H w) (hv:VRel (Kof ρ H w) ρ A (.ptr y 0) (ev x)) (hx:H y=some (.it g n seen)) (hg:H g=some (.mp es)) (hn:es.length=n) (hop:o.op=.next x false) :
    zy P (fun cv w'=>((∀ i,i < n→i∈seen)∧zfo A ρ H w (.tup [.bool false]) [] [] cv w') ∨
      ∃ (i:Nat) (e:AV×AV),es[i]? = some e∧i∉seen∧zfo A ρ H w (.tup [.bool true,e.1,e.2]) [] [(y,some (.it g n (seen ++ [i])))] cv w') ((execOp ev o).run P w):=by
  subst hn
  generalize hcv:ev x=cv at hv
  cases hv with
  | ptr _ _ a hA ha =>
    subst ha
    obtain ⟨b0,i1,i2⟩:=s.obj y _ hx
    obtain ⟨en,cl,q1,q2,q3,q4⟩:=s.obj g _ hg
    have hc:cl=es.length:=by rw [q4.1,q2]
    rw [hc] at q1
    have e0:execOp ev o=(do pure (Next.value (← Instr.next (ev x) false o.type))):=by simp only [execOp,hop]
    rw [e0,hcv,b0]
    have hold:∀ y∈en.toList,y.born < es.length:=fun y hy=>by
      obtain ⟨j,hj⟩:=List.getElem?_of_mem hy
      have hlt:=(List.getElem?_eq_some_iff.1 hj).1
      rw [q4.2 j y (by simpa using hj)]
      simpa [q2] using hlt
    rcases zyn (P:=P) (ty:=o.type) (tg:=none) i1 q1 hold rfl with ⟨hall,hrun⟩ | ⟨e,he,hes,w1,j1,j2,j3,j4,hrun⟩
    · refine ztw hrun (.inl ⟨fun i hi => ?_,zfo.quiet s (.tup _ _ rfl fun j v c hv hc => ?_)⟩)
      · have hj:en[i]? = some (en[i]'(by omega)):=Array.getElem?_eq_getElem (by omega)
        have:=hall _ (Array.getElem_mem (by omega:i < en.size))
        rw [q4.2 i _ hj] at this
        simpa using this
      · match j with
        | 0=>simp at hv hc; subst hv; subst hc; exact .bool _
        | j+1=>simp at hv
    · obtain ⟨j,hj⟩:=Array.getElem?_of_mem he
      have hlt:=(Array.getElem?_eq_some_iff.1 hj).1
      have hj':es[j]? = some (es[j]'(by omega)):=List.getElem?_eq_getElem (by omega)
      obtain ⟨k2,k3⟩:=q3 j _ e hj' hj
      have hb:=q4.2 j e hj
      have hltx:=(Array.getElem?_eq_some_iff.1 i1).1
      obtain ⟨s1,f1⟩:=s.write (w':=w1) (g:=y) (by rw [hx]; rfl) (.it g es.length (seen ++ [j])) (fun b hb=>by rw [j1]; simp [Array.getElem?_setIfInBounds_ne (Ne.symm hb)]) (by rw [j1]; simp) ⟨b0,by rw [j1,hb]; simp [hltx],i2⟩ j2 j3 j4
      refine ztw hrun (.inr ⟨j,_,hj',by rw [← hb]; simpa using hes,ρ,by rw [zbr]; exact s1,?_,by rw [zbr]; exact f1⟩)
      rw [zbr]
      exact .tup _ _ rfl fun i v c hv hc=>by
        match i with
        | 0=>simp at hv hc; subst hv; subst hc; exact .bool _
        | 1=>simp at hv hc; subst hv; subst hc; exact k2.fr f1
        | 2=>simp at hv hc; subst hv; subst hc; exact k3.fr f1
        | i+3=>simp at hv
theorem zyx {y g n j:Nat} {seen:List Nat} {es:List (AV×AV)} {u:AV×AV} (hx:e x=.ptr y 0) (hy:H0 y=some (.it g n seen)) (hg:H0 g=some (.mp es)) (hn:es.length=n) (hlast:seen.getLast? = some j) (hj:es[j]? = some u) (hop:o.op=.entry x) :
    Eff P o e H0 [y,g] [] [] (.tup [u.1,u.2]):=by
  subst hn
  refine Eff.read fun A ρ H w ev s hv hrd => ?_
  have hHy:H y=some (.it g es.length seen):=by rw [hrd y (by simp)]; exact hy
  have hHg:H g=some (.mp es):=by rw [hrd g (by simp)]; exact hg
  have r1:=hv x (by simp [Op.operands,hop])
  rw [hx] at r1
  generalize hcv:ev x=cv at r1
  cases r1 with
  | ptr _ _ a hA ha =>
    subst ha
    obtain ⟨b0,i1,i2⟩:=s.obj y _ hHy
    obtain ⟨en,cl,q1,q2,q3,q4⟩:=s.obj g _ hHg
    have hc:cl=es.length:=by rw [q4.1,q2]
    rw [hc] at q1
    have e0:execOp ev o=(do pure (Next.value (← Instr.entry (ev x)))):=by simp only [execOp,hop]
    rw [e0,hcv,b0]
    have hlt:=(List.getElem?_eq_some_iff.1 hj).1
    have hj':en[j]? = some (en[j]'(by omega)):=Array.getElem?_eq_getElem (by omega)
    obtain ⟨k2,k3⟩:=q3 j u _ hj hj'
    have hn:(en.toList.map (·.born)).Nodup:=by
      have:en.toList.map (·.born)=List.range en.size:=by
        apply List.ext_getElem?
        intro i
        simp only [List.getElem?_map,Array.getElem?_toList]
        by_cases hi:i < en.size
        · rw [List.getElem?_range hi,Array.getElem?_eq_getElem hi,Option.map_some,q4.2 i _ (Array.getElem?_eq_getElem hi)]
        · rw [Array.getElem?_eq_none (by omega),List.getElem?_eq_none (by simp; omega)]; rfl
      rw [this]; exact List.nodup_range
    have hrun:=zxb (P:=P) i1 q1 hn (Array.getElem_mem (i:=j) (by omega)) (by rw [q4.2 j _ hj']; simpa using hlast)
    refine ⟨_,by simp only [Sem.run_bind,hrun,Result.andThen_ok,Sem.run_pure]; rfl,.tup _ _ rfl fun i v c hv hc => ?_⟩
    match i with
    | 0=>simp at hv hc; subst hv; subst hc; exact k2
    | 1=>simp at hv hc; subst hv; subst hc; exact k3
    | i+2=>simp at hv
end
end Go.Proofs.YtpllgpgdcbgalaaDoor
set_option maxRecDepth 8000
namespace Go.Proofs.YtpllgpgdcbgalaaDoor
open Go Go.RowKit
abbrev K3:=Env→Heap→Nat→Prop
abbrev J3:=List AV→Heap→Nat→Prop
abbrev QT:=AV→Heap→Nat→Prop
def za (P:Program) (f:FuncId) (args:List AV) (H:Heap) (nx:Nat) (Post:AV→Heap→Nat→Prop):Prop :=
  ∀ (ρ:Nat→Loc) (w:World) (cargs:Array Value),Sim (· < nx) ρ H w→LRel (Kof ρ H w) ρ (· < nx) args cargs.toList →
    zy P (fun cv w'=>∃ r H' nx' ρ',Post r H' nx'∧Sim (· < nx') ρ' H' w'∧VRel (Kof ρ' H' w') ρ' (· < nx') r cv∧Fr (· < nx) ρ H w (· < nx') ρ' H' w') ((callFunc f cargs).run P w)
def nth (xs:List AV) (i:Nat):AV:=xs.getD i .junk
def zre (xs:List AV):List Nat→Nat→Env
  | [],_,_=>.junk
  | t :: r,i,u=>bif Nat.beq u t then nth xs i else zre xs r (i+1) u
def zkw (L:List Nat) (xs:List AV):Env:=zre xs L 0
def JN (J:J3) (B:J3→Prop):Prop:=∃ I:J3,(∀ xs H nx,I xs H nx→J xs H nx)∧B I
def LP (F:J3→J3) (xs:List AV) (H:Heap) (nx:Nat):Prop :=
  ∃ (I:Nat→J3) (n:Nat),I n xs H nx∧∀ n xs H nx,I n xs H nx→F (fun xs H nx=>∃ m,m < n∧I m xs H nx) xs H nx
def CND (v:AV) (A B:Prop):Prop:=match v with
  | .bool true=>A
  | .bool false=>B
  | _=>False
theorem zabx {b:Bool} {A B:Prop}:CND (.bool b) A B↔((b=true→A)∧(b=false→B)):=by cases b <;> simp [CND]
theorem zsn {v:AV} {A B:Prop} (h:CND v A B):∃ b,v=.bool b∧(b=true→A)∧(b=false→B):=by
  unfold CND at h
  split at h
  · exact ⟨true,rfl,fun _=>h,(fun h=>by cases h)⟩
  · exact ⟨false,rfl,(fun h=>by cases h),fun _=>h⟩
  · exact h.elim
def CNDC (v:AV) (A B:Prop):Prop:=match v with
  | .bool true=>A
  | .bool false=>B
  | .bany=>A∧B
  | _=>False
theorem zxm {v:AV} {A B:Prop} {K:zj} {ρ:Nat→Loc} {U:Nat→Prop} {c:Value} (h:CNDC v A B) (hv:VRel K ρ U v c):∃ b,c=.bool b∧(b=true→A)∧(b=false→B):=by
  unfold CNDC at h
  split at h
  · cases hv; exact ⟨true,rfl,fun _=>h,(fun h=>by cases h)⟩
  · cases hv; exact ⟨false,rfl,(fun h=>by cases h),fun _=>h⟩
  · cases hv with | bany b=>exact ⟨b,rfl,fun _=>h.1,fun _=>h.2⟩
  · exact h.elim
def CALL (P:Program) (f:AV) (args:List AV) (H:Heap) (nx:Nat) (k:AV→Heap→Nat→Prop):Prop:=match f with
  | .clo f cap=>za P f (args ++ cap) H nx k
  | _=>False
abbrev zcg:=List (Nat×Option Bool)
def zqy (t:Nat):zcg→Option (Option Bool)
  | []=>none
  | (u,b) :: r=>bif Nat.beq u t then some b else zqy t r
def zei (d:Option Nat) (kn:zcg):zcg:=match d with
  | none=>kn
  | some d=>kn.filter fun p=>!Nat.beq p.1 d
def zfk (d:Option Nat) (kn:zcg):zcg:=match d with
  | none=>kn
  | some t=>(t,none) :: zei d kn
def gdst (all:List Oper) (j:Nat):Option Nat:=(all[j]?).bind (·.dst)
section
variable (P:Program) (T:Nat→Option AT) (eqs:Nat→Bool)
def zrk (m:AV) (H:Heap) (nx:Nat) (k:AV→Heap→Nat→Prop):Prop:=match m with
  | .amap g=>match H g with
    | some (.mp es)=>k (.ptr nx 0) (H.put nx (some (.it g es.length []))) (nx+1)
    | _=>False
  | _=>False
def NEXT (x:AV) (H:Heap) (nx:Nat) (k:AV→Heap→Nat→Prop):Prop:=match x with
  | .ptr x off=>off=0∧match H x with
    | some (.it g n seen)=>match H g with
      | some (.mp es)=>es.length=n∧((∀ i,i < n→i∈seen)→k (.tup [.bool false]) H nx) ∧
          ∀ (i:Nat) (e:AV×AV),es[i]? = some e→i∉seen→k (.tup [.bool true,e.1,e.2]) (H.put x (some (.it g n (seen ++ [i])))) nx
      | _=>False
    | _=>False
  | _=>False
def zrm (x:AV) (H:Heap) (nx:Nat) (k:AV→Heap→Nat→Prop):Prop:=match x with
  | .ptr x off=>off=0∧match H x with
    | some (.it g n seen)=>match H g with
      | some (.mp es)=>es.length=n∧∃ i e,seen.getLast? = some i∧es[i]? = some e∧k (.tup [e.1,e.2]) H nx
      | _=>False
    | _=>False
  | _=>False
def zacf (t:Nat):Bool:=match T t with
  | some ⟨.map _ _,_,_,_⟩=>true
  | _=>false
def znk (o:Oper) (env:Env) (H:Heap) (nx:Nat) (k:AV→Heap→Nat→Prop):Prop :=
  match o.op with
  | .call c=>match c.callee with
    | .value f=>CALL P (env.ev f) (c.args.toList.map env.ev) H nx k
    | _=>sop T eqs env.ev H nx o k
  | .range t x=>gd (zacf T t) (zrk (env.ev x) H nx k)
  | .next x false=>NEXT (env.ev x) H nx k
  | .entry x=>zrm (env.ev x) H nx k
  | _=>sop T eqs env.ev H nx o k
def aops (all:List Oper):List Oper→zcg→K3→K3
  | [],_,K,env,H,nx=>K env H nx
  | o :: r, kn,K,env,H,nx=>match o.guard with
    | none=>znk P T eqs o env H nx fun v H nx=>aops all r (zei o.dst kn) K (env.putO o.dst v) H nx
    | some (j,want)=>match gdst all j with
      | none=>False
      | some t=>match zqy t kn with
        | some none=>aops all r (zfk o.dst kn) K (env.putO o.dst .und) H nx
        | some (some b)=>bif b == want then znk P T eqs o env H nx fun v H nx=>aops all r (zei o.dst kn) K (env.putO o.dst v) H nx
          else aops all r (zfk o.dst kn) K (env.putO o.dst .und) H nx
        | none=>CND (env t)
          (bif want then znk P T eqs o (env.put t (.bool true)) H nx fun v H nx=>aops all r (zei o.dst ((t,some true) :: kn)) K ((env.put t (.bool true)).putO o.dst v) H nx
            else aops all r (zfk o.dst ((t,some true) :: kn)) K ((env.put t (.bool true)).putO o.dst .und) H nx)
          (bif want then aops all r (zfk o.dst ((t,some false) :: kn)) K ((env.put t (.bool false)).putO o.dst .und) H nx
            else znk P T eqs o (env.put t (.bool false)) H nx fun v H nx=>aops all r (zei o.dst ((t,some false) :: kn)) K ((env.put t (.bool false)).putO o.dst v) H nx)
end
def zmd (N:Nat):List Oper→Bool
  | []=>true
  | o :: r=>(match o.dst with | some d=>decide (d < N) | none=>true) && zmd N r
structure St (N:Nat) (env:Env) (H:Heap) (nx:Nat) (ρ:Nat→Loc) (w:World) (a:Act):Prop where
  sim:Sim (· < nx) ρ H w
  env:∀ t,VRel (Kof ρ H w) ρ (· < nx) (env t) (a.tmps.getD t undef)
  size:a.tmps.size=N
  defers:a.defers=[]
theorem zae {P:Program} {R R':Value→World→Prop} {r:Result Next} (h:zy P R r) (hr:∀ v w,R v w→R' v w):zy P R' r:=by
  cases r with
  | ok n w =>
    cases n <;> simp only [zy] at h ⊢
    case value v=>exact hr _ _ h
    case skip=>exact hr _ _ h
    case enter f args=>exact h.mono fun e w'' ⟨v,he,hv⟩=>⟨v,he,hr _ _ hv⟩
  | halt x w=>exact h.elim
section
variable {P:Program} {H:Heap} {nx:Nat} {k:AV→Heap→Nat→Prop} {ρ:Nat→Loc} {w:World} {ev:Operand→Value} {o:Oper} {x:Operand} {v:AV}
theorem zjg {nx':Nat} {v:AV} {fr:List Nat} {D:zi} {cv:Value} {w':World} (h:zfo (· < nx) ρ H w v fr D cv w') (hA:(fun y=>y < nx∨y∈fr)=(fun y=>y < nx')) (hk:k v (H.apply D) nx') :
    ∃ v H' nx' ρ',k v H' nx'∧Sim (· < nx') ρ' H' w'∧VRel (Kof ρ' H' w') ρ' (· < nx') v cv∧Fr (· < nx) ρ H w (· < nx') ρ' H' w':=by
  obtain ⟨ρ',h1,h2,h3⟩:=h
  rw [hA] at h1 h2 h3
  exact ⟨v,_,nx',ρ',hk,h1,h2,h3⟩
theorem zuy {t kt el:Nat} (h:zrk v H nx k) (s:Sim (· < nx) ρ H w) {env:Operand→AV} (hv:∀ x∈o.op.operands.toList,VRel (Kof ρ H w) ρ (· < nx) (env x) (ev x)) (hx:env x=v) (hu:P.underlying t=some (.map kt el)) (hop:o.op=.range t x) :
    zy P (fun cv w'=>∃ v H' nx' ρ',k v H' nx'∧Sim (· < nx') ρ' H' w'∧VRel (Kof ρ' H' w') ρ' (· < nx') v cv∧Fr (· < nx) ρ H w (· < nx') ρ' H' w') ((execOp ev o).run P w):=by
  unfold zrk at h
  split at h
  · split at h
    · rename_i hg
      exact zae (zyg hx hg hu hop (· < nx) ρ H w ev s hv (fun _ _=>rfl) (fun g hg=>by simp at hg; omega)) fun cv w' q=>zjg q (nx':=nx+1) (by funext y; simp; omega) h
    · exact h.elim
  · exact h.elim
theorem zwt (h:NEXT v H nx k) (s:Sim (· < nx) ρ H w) (hv:VRel (Kof ρ H w) ρ (· < nx) v (ev x)) (hop:o.op=.next x false) :
    zy P (fun cv w'=>∃ v H' nx' ρ',k v H' nx'∧Sim (· < nx') ρ' H' w'∧VRel (Kof ρ' H' w') ρ' (· < nx') v cv∧Fr (· < nx) ρ H w (· < nx') ρ' H' w') ((execOp ev o).run P w):=by
  unfold NEXT at h
  split at h
  · obtain ⟨rfl,h⟩:=h
    split at h
    · rename_i hx
      split at h
      · rename_i hg
        obtain ⟨hn,hend,hstep⟩:=h
        refine zae (zaaj s hv hx hg hn hop) fun cv w' q => ?_
        rcases q with ⟨hall,q⟩ | ⟨i,e,hi,hs,q⟩
        · exact zjg q (by funext y; simp) (hend hall)
        · exact zjg q (by funext y; simp) (hstep i e hi hs)
      · exact h.elim
    · exact h.elim
  · exact h.elim
theorem zvf (h:zrm v H nx k) (s:Sim (· < nx) ρ H w) {env:Operand→AV} (hv:∀ x∈o.op.operands.toList,VRel (Kof ρ H w) ρ (· < nx) (env x) (ev x)) (hx:env x=v) (hop:o.op=.entry x) :
    zy P (fun cv w'=>∃ v H' nx' ρ',k v H' nx'∧Sim (· < nx') ρ' H' w'∧VRel (Kof ρ' H' w') ρ' (· < nx') v cv∧Fr (· < nx) ρ H w (· < nx') ρ' H' w') ((execOp ev o).run P w):=by
  unfold zrm at h
  split at h
  · obtain ⟨rfl,h⟩:=h
    split at h
    · rename_i hy
      split at h
      · rename_i hg
        obtain ⟨hn,j,u,hlast,hj,hk⟩:=h
        exact zae (zyx hx hy hg hn hlast hj hop (· < nx) ρ H w ev s hv (fun _ _=>rfl) (fun g hg=>by cases hg)) fun cv w' q=>zjg q (by funext y; simp) hk
      · exact h.elim
    · exact h.elim
  · exact h.elim
end
theorem St.ev {N:Nat} {env:Env} {H:Heap} {nx:Nat} {ρ:Nat→Loc} {w:World} {a:Act} (h:St N env H nx ρ w a) (x:Operand):VRel (Kof ρ H w) ρ (· < nx) (env.ev x) (a.eval x):=by
  cases x with
  | tmp t=>exact h.env t
  | const v=>exact zqp _ _ _ v
  | global g=>exact .junk _
  | func f=>exact .clo f [] #[] rfl fun j v c hv=>by simp at hv
theorem zsi (a:Act) (d:Option Tmp) (u:Nat) (v:Value) (h:∀ t,d=some t→t < a.tmps.size):(a.put d v).tmps.getD u undef=if d=some u then v else a.tmps.getD u undef:=by
  cases d with
  | none=>simp [Act.put]
  | some t =>
    rw [zaat a t u v (h t rfl)]
    by_cases hu:u=t
    · subst hu; simp
    · rw [if_neg hu,if_neg (by simpa using (Ne.symm hu))]
theorem zhb (e:Env) (d:Option Nat) (v:AV) (u:Nat):e.putO d v u=if d=some u then v else e u:=by
  cases d with
  | none=>simp [Env.putO]
  | some t =>
    simp only [Env.putO,Env.put]
    by_cases hu:u=t
    · subst hu; simp
    · have:Nat.beq u t=false:=by rw [← Bool.not_eq_true,Nat.beq_eq]; exact hu
      rw [this,if_neg (by simpa using (Ne.symm hu))]; rfl
theorem St.put {N:Nat} {env:Env} {H H':Heap} {nx nx':Nat} {ρ ρ':Nat→Loc} {w w':World} {a:Act} (h:St N env H nx ρ w a) (s':Sim (· < nx') ρ' H' w') (f:Fr (· < nx) ρ H w (· < nx') ρ' H' w') {d:Option Nat} (hd:∀ t,d=some t→t < N)
    {v:AV} {c:Value} (hv:VRel (Kof ρ' H' w') ρ' (· < nx') v c):St N (env.putO d v) H' nx' ρ' w' (a.put d c):=by
  refine ⟨s',fun t => ?_,?_,?_⟩
  · rw [zhb,zsi a d t c (by rw [h.size]; exact hd)]
    split
    · exact hv
    · exact (h.env t).fr f
  · cases d <;> simp [Act.put,h.size]
  · cases d <;> simp [Act.put,h.defers]
theorem St.weak {N:Nat} {env env':Env} {H:Heap} {nx:Nat} {ρ:Nat→Loc} {w:World} {a:Act} (h:St N env H nx ρ w a) (he:∀ t,env' t=env t∨env' t=.junk):St N env' H nx ρ w a :=
  ⟨h.sim,fun t=>by rcases he t with e | e <;> rw [e] <;> first | exact h.env t | exact .junk _,h.size,h.defers⟩
theorem zsl (env:Env):∀ (L M:List Nat) (t:Nat),zre ((M ++ L).map env) L M.length t=env t∨zre ((M ++ L).map env) L M.length t=.junk
  | [],M,t=>.inr rfl
  | u :: L,M,t=>by
    simp only [zre]
    cases hb:Nat.beq t u with
    | true =>
      have:t=u:=Nat.eq_of_beq_eq_true hb
      subst this
      left
      simp [nth]
    | false =>
      have:=zsl env L (M ++ [u]) t
      simpa using this
theorem zok (env:Env) (L:List Nat) (t:Nat):zkw L (L.map env) t=env t∨zkw L (L.map env) t=.junk:=zsl env L [] t
section
variable {P:Program} {T:Nat→Option AT} {eqs:Nat→Bool} (hT:TOk P T) (hE:EOk P T eqs) {lv:Nat→Nat→List Nat} {N:Nat}
variable (nx0:Nat) (ρ0:Nat→Loc) (H0:Heap) (w0:World)
theorem zqh {nx:Nat} {fr:List Nat} (h:fr=[]∨fr=[nx]):(fun x=>x < nx∨x∈fr)=(fun x=>x < nx+fr.length):=by
  funext x
  rcases h with rfl | rfl
  · simp
  · simp; omega
include hT hE in
theorem zvj {o:Oper} {env:Env} {H:Heap} {nx:Nat} {k:AV→Heap→Nat→Prop} (h:znk P T eqs o env H nx k) {ρ:Nat→Loc} {w:World} {a:Act} (st:St N env H nx ρ w a) :
    zy P (fun cv w'=>∃ v H' nx' ρ',k v H' nx'∧Sim (· < nx') ρ' H' w'∧VRel (Kof ρ' H' w') ρ' (· < nx') v cv∧Fr (· < nx) ρ H w (· < nx') ρ' H' w') ((execOp a.eval o).run P w):=by
  have plain:sop T eqs env.ev H nx o k→zy P (fun cv w'=>∃ v H' nx' ρ',k v H' nx'∧Sim (· < nx') ρ' H' w'∧VRel (Kof ρ' H' w') ρ' (· < nx') v cv∧Fr (· < nx) ρ H w (· < nx') ρ' H' w') ((execOp a.eval o).run P w):=by
    intro h
    obtain ⟨v,rd,fr,D,hfr,he,hk⟩:=zzp hT hE (zacq T eqs h)
    have:=he (· < nx) ρ H w a.eval st.sim (fun x _=>st.ev x) (fun _ _=>rfl) (fun g hg=>by rcases hfr with rfl | rfl <;> simp at hg; omega)
    refine zae this fun cv w' ⟨ρ',q1,q2,q3⟩=>⟨v,H.apply D,nx+fr.length,ρ',hk,?_,?_,?_⟩
    · rw [zqh hfr] at q1; exact q1
    · rw [zqh hfr] at q2; exact q2
    · rw [zqh hfr] at q3; exact q3
  unfold znk at h
  split at h
  · rename_i c hop
    split at h
    · rename_i f hc
      unfold CALL at h
      split at h
      · rename_i fid cap hf
        have hfv:=st.ev f
        rw [hf] at hfv
        generalize hcv:a.eval f=cv at hfv
        cases hfv with
        | clo _ _ cs hl hR =>
          have hargs:LRel (Kof ρ H w) ρ (· < nx) (c.args.toList.map env.ev ++ cap) (c.args.map a.eval ++ cs).toList:=by
            rw [Array.toList_append]
            refine LRel.append ⟨by simp,fun j v u hv hu => ?_⟩ ⟨by simpa using hl,fun j v u hv hu=>hR j v u hv (by simpa using hu)⟩
            simp only [List.getElem?_map,Option.map_eq_some_iff,Array.toList_map] at hv hu
            obtain ⟨x,hx,rfl⟩:=hv
            obtain ⟨y,hy,rfl⟩:=hu
            rw [hx] at hy
            obtain rfl:=Option.some.inj hy
            exact st.ev x
          have:=h ρ w (c.args.map a.eval ++ cs) st.sim hargs
          have e:(execOp a.eval o).run P w=(callFunc fid (c.args.map a.eval ++ cs)).run P w:=by
            simp only [execOp,hop,resolve,hc,hcv,Deferred.ofValue,Sem.run_bind,Sem.run_pure,Result.andThen_ok,invoke,Array.empty_append]
          rw [e]
          exact this
      · exact h.elim
    · exact plain h
  · rename_i t x hop
    rw [ztv] at h
    obtain ⟨hm,h⟩:=h
    unfold zacf at hm
    split at hm
    · rename_i kt el s0 b0 z0 ht
      obtain ⟨i,d,z,hat⟩:=hT.at ht
      have hu:=zox hat
      exact zuy h st.sim (env:=env.ev) (fun x _=>st.ev x) rfl hu hop
    · cases hm
  · rename_i x hop
    exact zwt h st.sim (st.ev x) hop
  · rename_i x hop
    exact zvf h st.sim (env:=env.ev) (fun x _=>st.ev x) rfl hop
  · exact plain h
def KnOk (kn:zcg) (env:Env):Prop:=∀ t b,(t,b)∈kn→match b with | some b=>env t=.bool b | none=>env t=.und
theorem zhn {t:Nat}:∀ {kn:zcg} {b:Option Bool},zqy t kn=some b→(t,b)∈kn
  | (u, c) :: r,b,h=>by
    simp only [zqy] at h
    cases hb:Nat.beq u t with
    | true =>
      rw [hb] at h
      have:u=t:=Nat.eq_of_beq_eq_true hb
      subst this
      simp only [cond_true,Option.some.injEq] at h
      subst h
      simp
    | false =>
      rw [hb] at h
      simp only [cond_false] at h
      exact List.mem_cons_of_mem _ (zhn h)
theorem KnOk.drop {kn:zcg} {env:Env} (h:KnOk kn env) (d:Option Nat) (v:AV):KnOk (zei d kn) (env.putO d v):=by
  intro t b hm
  rw [zhb]
  cases d with
  | none=>exact h t b hm
  | some d =>
    simp only [zei,List.mem_filter] at hm
    have hne:d ≠ t:=by
      intro e; subst e
      have:=hm.2
      simp at this
    rw [if_neg (by simpa using hne)]
    exact h t b hm.1
theorem KnOk.skip {kn:zcg} {env:Env} (h:KnOk kn env) (d:Option Nat):KnOk (zfk d kn) (env.putO d .und):=by
  cases d with
  | none=>exact h
  | some d =>
    intro t b hm
    simp only [zfk,List.mem_cons,Prod.mk.injEq] at hm
    rcases hm with ⟨rfl,rfl⟩ | hm
    · simp only [zhb,if_pos]
    · exact h.drop (some d) .und t b hm
theorem KnOk.know {kn:zcg} {env:Env} (h:KnOk kn env) {t:Nat} {b:Bool} (hb:env t=.bool b):KnOk ((t,some b) :: kn) (env.put t (.bool b)):=by
  have he:env.put t (.bool b)=env:=by
    funext u
    simp only [Env.put]
    cases hu:Nat.beq u t with
    | true=>have:u=t:=Nat.eq_of_beq_eq_true hu; subst this; exact hb.symm
    | false=>rfl
  rw [he]
  intro u c hm
  simp only [List.mem_cons,Prod.mk.injEq] at hm
  rcases hm with ⟨rfl,rfl⟩ | hm
  · exact hb
  · exact h u c hm
theorem zqe {env:Env} {t:Nat} {v:AV} (h:env t=v):env.put t v=env:=by
  funext u
  simp only [Env.put]
  cases hu:Nat.beq u t with
  | true=>have:u=t:=Nat.eq_of_beq_eq_true hu; subst this; exact h.symm
  | false=>rfl
theorem zqn {all:Array Oper} {j t:Nat} (h:gdst all.toList j=some t) (a:Act):yielded all a.tmps j=match a.tmps[t]? with | some (.bool b)=>some b | _=>none:=by
  unfold gdst at h
  have e:(all[j]?).bind (·.dst)=some t:=by simpa using h
  simp only [yielded,e,Option.bind_some]
  cases a.tmps[t]? with
  | none=>rfl
  | some v=>cases v <;> rfl
end
end Go.Proofs.YtpllgpgdcbgalaaDoor
