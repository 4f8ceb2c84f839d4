/- A verification-condition generator over the model's code, with its proof: 'evF' turns a function's code into one typed proposition, and 'calls_of_ev' says that this proposition proves the function's contract. -/

import Derived.WalkKit
import Derived.Orders
import Derived.KernelRfl
import Derived.Deep.LoopGhost
import Derived.Laws.Rows
set_option linter.unusedVariables false
set_option linter.unusedSimpArgs false
namespace Go.Proofs.YtmhjehodfggleaaGreat.Vc
open Go
inductive Leaf where
 | int (k:IntKind) | bool | flt (k:FloatKind) | str | ptr | slc | mp | any
@[reducible] def LTy:Leaf→Type
 | .int _=>Int
 | .bool=>Bool
 | .flt _=>Nat
 | .str=>ByteArray
 | .ptr=>Option Addr
 | .slc=>Option Addr×Nat×Nat
 | .mp=>Option Nat
 | .any=>Value
def lval:(l:Leaf)→LTy l→Value
 | .int k,x=>.int k x
 | .bool,b=>.bool b
 | .flt k,x=>.float k x
 | .str,s=>.string s
 | .ptr,p=>.pointer p
 | .slc,s=>.slice s.1 s.2.1 s.2.2
 | .mp,r=>.map r
 | .any,v=>v
def unl:(l:Leaf)→Value→(LTy l→Prop)→Prop
 | .int k,v,f=>match v with | .int k' x=>(if k'=k then f x else False) | _=>False
 | .bool,v,f=>match v with | .bool b=>f b | _=>False
 | .flt k,v,f=>match v with | .float k' x=>(if k'=k then f x else False) | _=>False
 | .str,v,f=>match v with | .string s=>f s | _=>False
 | .ptr,v,f=>match v with | .pointer p=>f p | _=>False
 | .slc,v,f=>match v with | .slice a n c=>f (a,n,c) | _=>False
 | .mp,v,f=>match v with | .map r=>f r | _=>False
 | .any,v,f=>f v
theorem unl_spec {l:Leaf} {v:Value} {f:LTy l→Prop} (h:unl l v f):∃x,v=lval l x∧f x:=by
 cases l<;>simp only [unl] at h
 case int k=>split at h<;>simp_all [lval]
 case flt k=>split at h<;>simp_all [lval]
 case any=>exact ⟨v,rfl,h⟩
 case slc=>split at h<;>first | exact h.elim | exact ⟨(_,_,_),rfl,h⟩
 all_goals (split at h<;>first | exact h.elim | exact ⟨_,rfl,h⟩)
inductive Kd where
 | one (l:Leaf)
 | agg (ls:List Leaf)
 | unit
 | adr
@[reducible] def TupL:List Leaf→Type
 | []=>Unit
 | l :: ls=>LTy l×TupL ls
@[reducible] def KTy:Kd→Type
 | .one l=>LTy l
 | .agg ls=>TupL ls
 | .unit=>Unit
 | .adr=>Addr
def lvals:(ls:List Leaf)→TupL ls→List Value
 | [],_=>[]
 | l :: ls,x=>lval l x.1 :: lvals ls x.2
def kval:(k:Kd)→KTy k→Value
 | .one l,x=>lval l x
 | .agg ls,x=>.agg (lvals ls x).toArray
 | .unit,_=>.tuple #[]
 | .adr,a=>.pointer (some a)
def unls:(ls:List Leaf)→List Value→(TupL ls→Prop)→Prop
 | [],vs,f=>match vs with | []=>f () | _=>False
 | l :: ls,vs,f=>match vs with | v :: r=>unl l v fun x=>unls ls r fun y=>f (x,y) | []=>False
theorem unls_spec:∀{ls:List Leaf} {vs:List Value} {f:TupL ls→Prop},unls ls vs f→∃x,vs=lvals ls x∧f x
 | [],vs,f,h=>by
  simp only [unls] at h
  split at h
  ·exact ⟨(),rfl,h⟩
  ·exact h.elim
 | l :: ls,vs,f,h=>by
  simp only [unls] at h
  split at h
  ·obtain ⟨x,hx,h1⟩:=unl_spec h
   obtain ⟨y,hy,h2⟩:=unls_spec h1
   exact ⟨(x,y),by rw [hx,hy]; rfl,h2⟩
  ·exact h.elim
def unk:(k:Kd)→Value→(KTy k→Prop)→Prop
 | .one l,v,f=>unl l v f
 | .agg ls,v,f=>match v with | .agg cs=>unls ls cs.toList f | _=>False
 | .unit,v,f=>match v with | .tuple vs=>(match vs.toList with | []=>f () | _ :: _=>False) | _=>False
 | .adr,v,f=>match v with | .pointer q=>(match q with | some a=>f a | none=>False) | _=>False
theorem unk_spec {k:Kd} {v:Value} {f:KTy k→Prop} (h:unk k v f):∃x,v=kval k x∧f x:=by
 cases k with
 | one l=>exact unl_spec h
 | agg ls=>
  simp only [unk] at h
  split at h
  ·rename_i cs
   obtain ⟨x,hx,h⟩:=unls_spec h
   refine ⟨x,?_,h⟩
   simp only [kval,←hx]
  ·exact h.elim
 | unit=>
  simp only [unk] at h
  split at h
  ·rename_i vs
   split at h
   ·rename_i hv
    obtain rfl:vs=#[]:=by apply Array.ext'; simpa using hv
    exact ⟨(),rfl,h⟩
   ·exact h.elim
  ·exact h.elim
 | adr=>
  simp only [unk] at h
  split at h
  ·split at h
   ·exact ⟨_,rfl,h⟩
   ·exact h.elim
  ·exact h.elim
def ldI (k:IntKind) (w:World) (a:Addr) (K:Int→Prop):Prop:=∃x,w.cell? a=some (.int k x)∧K x
def ldB (w:World) (a:Addr) (K:Bool→Prop):Prop:=∃x,w.cell? a=some (.bool x)∧K x
def ldF (k:FloatKind) (w:World) (a:Addr) (K:Nat→Prop):Prop:=∃x,w.cell? a=some (.float k x)∧K x
def ldS (w:World) (a:Addr) (K:ByteArray→Prop):Prop:=∃x,w.cell? a=some (.string x)∧K x
def ldP (w:World) (a:Addr) (K:Option Addr→Prop):Prop:=∃x,w.cell? a=some (.pointer x)∧K x
def ldC (w:World) (a:Addr) (K:Option Addr→Nat→Nat→Prop):Prop:=∃p n c,w.cell? a=some (.slice p n c)∧K p n c
def ldM (w:World) (a:Addr) (K:Option Nat→Prop):Prop:=∃x,w.cell? a=some (.map x)∧K x
def ldV (w:World) (a:Addr) (K:Value→Prop):Prop:=∃x,w.cell? a=some x∧K x
def ld1:Leaf→World→Addr→(Value→Prop)→Prop
 | .int k,w,a,K=>ldI k w a fun x=>K (.int k x)
 | .bool,w,a,K=>ldB w a fun x=>K (.bool x)
 | .flt k,w,a,K=>ldF k w a fun x=>K (.float k x)
 | .str,w,a,K=>ldS w a fun x=>K (.string x)
 | .ptr,w,a,K=>ldP w a fun x=>K (.pointer x)
 | .slc,w,a,K=>ldC w a fun p n c=>K (.slice p n c)
 | .mp,w,a,K=>ldM w a fun x=>K (.map x)
 | .any,w,a,K=>ldV w a K
theorem ld1_spec {l:Leaf} {w:World} {a:Addr} {K:Value→Prop} (h:ld1 l w a K):∃v,w.cell? a=some v∧K v:=by
 cases l
 case slc=>obtain ⟨p,n,c,h1,h2⟩:=h; exact ⟨_,h1,h2⟩
 all_goals (obtain ⟨x,h1,h2⟩:=h; exact ⟨_,h1,h2⟩)
def ldL:List Leaf→World→Addr→Nat→(List Value→Prop)→Prop
 | [],_,_,_,K=>K []
 | l :: ls,w,a,i,K=>ld1 l w (a.add i) fun v=>ldL ls w a (i+1) fun vs=>K (v :: vs)
theorem ldL_spec:∀{ls:List Leaf} {w:World} {a:Addr} {i:Nat} {K:List Value→Prop},ldL ls w a i K→
  ∃vs:List Value,vs.length=ls.length∧(∀j v,vs[j]?=some v→w.cell? (a.add (i+j))=some v)∧K vs
 | [],w,a,i,K,h=>⟨[],rfl,fun j v hj=>by simp at hj,h⟩
 | l :: ls,w,a,i,K,h=>by
  obtain ⟨v,h1,h2⟩:=ld1_spec h
  obtain ⟨vs,hl,hc,hK⟩:=ldL_spec h2
  refine ⟨v :: vs,by simp [hl],fun j u hj=>?_,hK⟩
  cases j with
  | zero=>simp at hj; subst hj; simpa using h1
  | succ j=>
   have:=hc j u (by simpa using hj)
   rwa [show i+1+j=i+(j+1) by omega] at this
def leavesN (P:Program):Nat→TypeId→Option (List Leaf)
 | 0,_=>none
 | d+1,t=>match P.underlying t with
  | some .bool=>some [.bool]
  | some (.int k)=>some [.int k]
  | some (.float k)=>some [.flt k]
  | some .string=>some [.str]
  | some (.pointer _)=>some [.ptr]
  | some (.slice _)=>some [.slc]
  | some (.map _ _)=>some [.mp]
  | some (.func _ _ _)=>some [.any]
  | some (.interface _)=>some [.any]
  | some (.struct fs)=>fs.toList.foldr (fun f acc=>match leavesN P d f.type,acc with | some x,some y=>some (x++y) | _,_=>none) (some [])
  | some (.array n e)=>match leavesN P d e with | some x=>some (List.replicate n x).flatten | none=>none
  | _=>none
def leaves (P:Program) (t:TypeId):Option (List Leaf):=leavesN P 6 t
def isAggB (P:Program) (t:TypeId):Option Bool:=
 match P.underlying t with
 | some (.struct _) | some (.array _ _)=>some true
 | some _=>some false
 | none=>none
def sizeB (P:Program) (t:TypeId) (n:Nat):Bool:=match P.info? t with | some i=>Nat.beq i.size n | none=>false
def loadT (P:Program) (t:TypeId) (a:Addr) (w:World) (K:Value→Prop):Prop:=
 match isAggB P t,leaves P t with
 | some false,some [l]=>ld1 l w a K
 | some true,some ls=>match sizeB P t ls.length with
  | true=>ldL ls w a 0 fun vs=>K (.agg vs.toArray)
  | false=>False
 | _,_=>False
theorem run_isAgg {P:Program} {t:TypeId} {b:Bool} (h:isAggB P t=some b) (w:World):(isAgg t).run P w=.ok b w:=by
 unfold isAggB at h
 cases hd:P.underlying t with
 | none=>simp [hd] at h
 | some d=>cases d<;>simp_all [isAgg,run_underlying hd]
theorem sizeB_spec {P:Program} {t:TypeId} {n:Nat} (h:sizeB P t n=true):∃i,P.info? t=some i∧i.size=n:=by
 unfold sizeB at h
 split at h
 ·rename_i i hi; exact ⟨i,hi,Nat.eq_of_beq_eq_true h⟩
 ·cases h
theorem run_sizeOf {P:Program} {t:TypeId} {n:Nat} (h:sizeB P t n=true) (w:World):(sizeOf t).run P w=.ok n w:=by
 obtain ⟨i,hi,rfl⟩:=sizeB_spec h
 simp [sizeOf,typeInfo,hi]
theorem loadT_spec {P:Program} {t:TypeId} {a:Addr} {w:World} {K:Value→Prop} (h:loadT P t a w K) :
  ∃v,(loadVar t a).run P w=.ok v w∧K v:=by
 unfold loadT at h
 split at h
 ·rename_i l hb hl
  obtain ⟨v,hc,hK⟩:=ld1_spec h
  exact ⟨v,by simp [loadVar,run_isAgg hb,hc],hK⟩
 ·rename_i ls hb hl
  split at h
  ·rename_i hs
   obtain ⟨vs,hlen,hc,hK⟩:=ldL_spec h
   refine ⟨_,?_,hK⟩
   have hcells:=run_loadCells_list (P:=P) w a vs (fun j v hj=>by have:=hc j v hj; rwa [Nat.zero_add] at this)
   rw [hlen] at hcells
   simp [loadVar,run_isAgg hb,run_sizeOf hs,hcells]
  ·exact h.elim
 ·exact h.elim
def st (w:World) (a:Addr) (v:Value) (K:World→Prop):Prop:=
 v.oneCell'=true∧(w.cell? a).isSome=true∧w.frozen? a=false∧K (w.setCell a v)
theorem st_spec {P:Program} {w:World} {a:Addr} {v:Value} {K:World→Prop} (h:st w a v K) :
  (store a v).run P w=.ok () (w.setCell a v)∧K (w.setCell a v):=by
 obtain ⟨h1,h2,h3,h4⟩:=h
 refine ⟨?_,h4⟩
 obtain ⟨u,hu⟩:=Option.isSome_iff_exists.1 h2
 rw [run_store P w a v .plain h1,hu]
 simp [h3]
def stL:List Value→World→Addr→Nat→(World→Prop)→Prop
 | [],w,_,_,K=>K w
 | v :: vs,w,a,i,K=>st w (a.add i) v fun w'=>stL vs w' a (i+1) K
theorem stL_spec {P:Program} : ∀{vs:List Value} {w:World} {a:Addr} {i:Nat} {K:World→Prop},stL vs w a i K→
  ∃w',(storeCells a vs i).run P w=.ok () w'∧K w'
 | [],w,a,i,K,h=>⟨w,by simp [storeCells],h⟩
 | v :: vs,w,a,i,K,h=>by
  obtain ⟨h1,h2⟩:=st_spec (P:=P) h
  obtain ⟨w',h3,h4⟩:=stL_spec (P:=P) h2
  exact ⟨w',by simp [storeCells,h1,h3],h4⟩
def cellsL (v:Value):List Value:=match v with | .agg cs=>cs.toList | v=>[v]
theorem cellsL_eq (v:Value):cellsL v=v.cells.toList:=by cases v<;>simp [cellsL,Value.cells]
def storeT (P:Program) (t:TypeId) (a:Addr) (v:Value) (w:World) (K:World→Prop):Prop:=
 match isAggB P t with
 | some false=>(match sizeB P t 1 with
  | true=>st w (a.add 0) v K
  | false=>False)
 | _=>match sizeB P t (cellsL v).length with
  | true=>stL (cellsL v) w a 0 K
  | false=>False
theorem cells_one {v:Value} (h:v.oneCell'=true):v.cells=#[v]:=by cases v<;>simp_all [Value.oneCell',Value.cells]
theorem storeT_spec {P:Program} {t:TypeId} {a:Addr} {v:Value} {w:World} {K:World→Prop} (h:storeT P t a v w K) :
  ∃w',(storeVar t a v).run P w=.ok () w'∧K w':=by
 unfold storeT at h
 split at h
 ·split at h
  ·rename_i hs
   have h1:=h.1
   obtain ⟨h2,h3⟩:=st_spec (P:=P) h
   refine ⟨_,?_,h3⟩
   have hc:=cells_one h1
   simp only [storeVar,hc]
   simp [run_sizeOf hs,storeCells,h2]
  ·exact h.elim
 ·split at h
  ·rename_i hs
   obtain ⟨w',h1,h2⟩:=stL_spec (P:=P) h
   refine ⟨w',?_,h2⟩
   have hl:v.cells.size=(cellsL v).length:=by simp [cellsL_eq]
   simp only [storeVar]
   simp [run_sizeOf hs,hl]
   rw [←cellsL_eq]; exact h1
  ·exact h.elim
def alc (w:World) (cs:List Value) (t:TypeId) (K:Nat→World→Prop):Prop:=K w.heap.size (w.alloc (.cells cs.toArray t))
def nn (p:Option Addr) (K:Addr→Prop):Prop:=match p with | some a=>K a | none=>False
theorem nn_spec {p:Option Addr} {K:Addr→Prop} (h:nn p K):∃a,p=some a∧K a:=by
 cases p with
 | none=>exact h.elim
 | some a=>exact ⟨a,rfl,h⟩
def ixA (p:Option Addr) (n:Nat) (i:Int) (sz:Nat) (K:Addr→Prop):Prop:=0≤i∧i<n∧nn p fun a=>K (a.add (i.toNat*sz))
def pif (b:Bool) (X Y:Prop):Prop:=(b=true→X)∧(b=false→Y)
def gd {α:Type} (b:Bool) (A:(α→World→Prop)→Prop) (d:α) (w:World) (K:α→World→Prop):Prop:=(b=true→A K)∧(b=false→K d w)
def lp {σ:Type} (body:σ→World→(σ→World→Prop)→Prop) (s:σ) (w:World):Prop:=
 ∃(I:σ→World→Prop) (μ:σ→World→Nat),I s w∧∀s w,I s w→body s w (fun s' w'=>I s' w'∧μ s' w'<μ s w)
def jn {σ:Type} (A:(σ→World→Prop)→Prop) (B:σ→World→Prop):Prop:=∃R:σ→World→Prop,A R∧∀s w,R s w→B s w
def rn (P:Program) (s:Sem Value) (w:World) (K:Value→World→Prop):Prop:=∃v w',s.run P w=.ok v w'∧K v w'
end Go.Proofs.YtmhjehodfggleaaGreat.Vc

/- The verification-condition generator, second part: operations: what each comes to, and the proof. -/

set_option linter.unusedVariables false
set_option linter.unusedSimpArgs false
namespace Go.Proofs.YtmhjehodfggleaaGreat.Vc
open Go
abbrev Path:=List (Nat×Bool)
structure Ent where
 slot:Nat
 path:Path
 val:Value
abbrev Env:=List Ent
def look:Env→Nat→Option Ent
 | [],_=>none
 | x :: r,t=>bif Nat.beq x.slot t then some x else look r t
def eqP:Path→Path→Bool
 | [],[]=>true
 | (s,b) :: r,(s',b') :: r'=>Nat.beq s s'&&(b==b')&&eqP r r'
 | _,_=>false
theorem eqP_spec:∀{p q:Path},eqP p q=true→p=q
 | [],[],_=>rfl
 | (s,b) :: r,(s',b') :: r',h=>by
  simp only [eqP,Bool.and_eq_true,beq_iff_eq] at h
  rw [Nat.eq_of_beq_eq_true h.1.1,h.1.2,eqP_spec h.2]
 | [],_ :: _,h=>by simp [eqP] at h
 | _ :: _,[],h=>by simp [eqP] at h
def sufB (q:Path):Path→Bool
 | []=>eqP q []
 | x :: p=>eqP q (x :: p) || sufB q p
theorem sufB_spec {q:Path} : ∀{p:Path},sufB q p=true→∀x∈q,x∈p
 | [],h,x,hx=>by rw [eqP_spec h] at hx; exact hx
 | y :: p,h,x,hx=>by
  simp only [sufB,Bool.or_eq_true] at h
  rcases h with h | h
  ·rw [eqP_spec h] at hx; exact hx
  ·exact List.mem_cons_of_mem _ (sufB_spec h x hx)
def On (a:Act) (p:Path):Prop:=∀x∈p,a.tmps[x.1]?=some (.bool x.2)
theorem On.nil (a:Act):On a []:=fun x hx=>by cases hx
theorem On.suf {a:Act} {p q:Path} (h:On a p) (hq:sufB q p=true):On a q:=fun x hx=>h x (sufB_spec hq x hx)
structure EntOk (a:Act) (en:Ent):Prop where
 yes:On a en.path→a.tmps[en.slot]?=some en.val
 no:¬On a en.path→a.tmps[en.slot]?=some undef
def Sim (E:Env) (a:Act):Prop:=∀t en,look E t=some en→EntOk a en
theorem look_slot:∀{E:Env} {t:Nat} {en:Ent},look E t=some en→en.slot=t
 | x :: r,t,en,h=>by
  simp only [look] at h
  cases hb:Nat.beq x.slot t with
  | true=>rw [hb] at h; simp at h; subst h; exact Nat.eq_of_beq_eq_true hb
  | false=>rw [hb] at h; exact look_slot h
theorem look_mem:∀{E:Env} {t:Nat} {en:Ent},look E t=some en→en∈E
 | x :: r,t,en,h=>by
  simp only [look] at h
  cases hb:Nat.beq x.slot t with
  | true=>rw [hb] at h; simp at h; subst h; exact List.mem_cons_self
  | false=>rw [hb] at h; exact List.mem_cons_of_mem _ (look_mem h)
def opd (E:Env) (p:Path):Operand→Option Value
 | .tmp t=>match look E t with
  | some en=>bif sufB en.path p then some en.val else none
  | none=>none
 | .const v=>some v
 | .global g=>some (.pointer (some ⟨g,0,none⟩))
 | .func f=>some (.func (.func f) #[] #[])
theorem opd_spec {E:Env} {p:Path} {x:Operand} {v:Value} {a:Act} (hs:Sim E a) (hp:On a p) (h:opd E p x=some v):a.eval x=v:=by
 cases x with
 | tmp t=>
  simp only [opd] at h
  split at h
  ·rename_i en hl
   cases hb:sufB en.path p with
   | false=>rw [hb] at h; simp at h
   | true=>
    rw [hb] at h; simp at h; subst h
    have:=(hs t en hl).yes (hp.suf hb)
    rw [look_slot hl] at this
    simp only [Act.eval,Array.getD_eq_getD_getElem?,this,Option.getD_some]
  ·cases h
 | const v'=>simp [opd] at h; subst h; rfl
 | global g=>simp [opd] at h; subst h; rfl
 | func f=>simp [opd] at h; subst h; rfl
def opds (E:Env) (p:Path):List Operand→Option (List Value)
 | []=>some []
 | x :: xs=>match opd E p x,opds E p xs with
  | some v,some vs=>some (v :: vs)
  | _,_=>none
theorem opds_spec {E:Env} {p:Path} {a:Act} (hs:Sim E a) (hp:On a p):∀{xs:List Operand} {vs:List Value},opds E p xs=some vs→xs.map a.eval=vs
 | [],vs,h=>by simp [opds] at h; subst h; rfl
 | x :: xs,vs,h=>by
  simp only [opds] at h
  split at h
  ·rename_i v vs' h1 h2
   simp at h; subst h
   rw [List.map_cons,opd_spec hs hp h1,opds_spec hs hp h2]
  ·cases h
def lit (w b:Bool):Bool:=match w with | true=>b | false=>!b
theorem lit_spec {w b:Bool} : lit w b=true↔b=w:=by cases w<;>cases b<;>simp [lit]
def pathB (E:Env):Path→Option Bool
 | []=>some true
 | (s,w) :: p=>match look E s with
  | some en=>match en.val with
   | .bool b=>bif eqP en.path p then (match p with
    | []=>some (lit w b)
    | _=>match pathB E p with | some c=>some (c&&lit w b) | none=>none) else none
   | _=>none
  | none=>none
theorem pathB_spec {E:Env} {a:Act} (hs:Sim E a):∀{p:Path} {c:Bool},pathB E p=some c→(c=true↔On a p)
 | [],c,h=>by simp [pathB] at h; subst h; exact ⟨fun _=>On.nil a,fun _=>rfl⟩
 | (s,w) :: p,c,h=>by
  simp only [pathB] at h
  split at h
  ·rename_i en hl
   split at h
   ·rename_i b hv
    cases hb:eqP en.path p with
    | false=>rw [hb] at h; simp at h
    | true=>
     rw [hb] at h
     have hp:=eqP_spec hb
     have key:On a ((s,w) :: p)↔(On a p∧b=w):=by
      constructor
      ·intro hon
       have hop:On a p:=fun x hx=>hon x (List.mem_cons_of_mem _ hx)
       have h1:=(hs s en hl).yes (by rw [hp]; exact hop)
       rw [look_slot hl,hv,hon (s,w) List.mem_cons_self] at h1
       simp at h1
       exact ⟨hop,h1.symm⟩
      ·rintro ⟨hop,rfl⟩ x hx
       rcases List.mem_cons.1 hx with rfl | hx
       ·have h1:=(hs s en hl).yes (by rw [hp]; exact hop)
        rw [look_slot hl,hv] at h1
        exact h1
       ·exact hop x hx
     rw [key]
     simp only [cond_true] at h
     split at h
     ·simp at h; subst h
      rw [lit_spec]
      exact ⟨fun e=>⟨On.nil a,e⟩,fun e=>e.2⟩
     ·rename_i hne
      split at h
      ·rename_i c0 hc0
       simp at h; subst h
       rw [Bool.and_eq_true,lit_spec,pathB_spec hs hc0]
      ·cases h
   ·cases h
  ·cases h
def binI (op:BinOp) (k:IntKind) (x y:Int):Option Value:=
 match op with
 | .add=>some (.int k (k.wrap (x+y)))
 | .sub=>some (.int k (k.wrap (x - y)))
 | .mul=>some (.int k (k.wrap (x*y)))
 | .eql=>some (.bool (x==y))
 | .neq=>some (.bool (x != y))
 | .lss=>some (.bool (decide (x<y)))
 | .leq=>some (.bool (decide (x≤y)))
 | .gtr=>some (.bool (decide (x>y)))
 | .geq=>some (.bool (decide (x≥y)))
 | .and=>some (.int k (bits .and k x y))
 | .or=>some (.int k (bits .or k x y))
 | .xor=>some (.int k (bits .xor k x y))
 | .andNot=>some (.int k (bits .andNot k x y))
 | _=>none
theorem binI_spec {P:Program} {op:BinOp} {k:IntKind} {x y:Int} {v:Value} (t:TypeId) (h:binI op k x y=some v) (w:World) :
  (binOp op t (.int k x) (.int k y)).run P w=.ok v w:=by
 cases op<;>simp only [binI,Option.some.injEq,reduceCtorEq] at h<;>subst h<;>first | (simp [binOp,Op.intArith,Op.intCmp]; done) | (simp only [binOp_and,binOp_or,binOp_xor,binOp_andNot,intBits_and,intBits_or,intBits_xor,intBits_andNot]; rfl)
def binC (op:BinOp) (k:IntKind) (x:Int) (n:Int):Option Value:=
 match op with
 | .quo=>if n=0 then none else some (.int k (k.wrap (x.tdiv n)))
 | .rem=>if n=0 then none else some (.int k (x.tmod n))
 | .shl=>if n<0 then none else some (.int k (k.wrap (x*2 ^ (min n.toNat k.bits))))
 | .shr=>if n<0 then none else some (.int k (x.fdiv (2 ^ (min n.toNat k.bits))))
 | _=>none
theorem binC_spec {P:Program} {op:BinOp} {k k':IntKind} {x n:Int} {v:Value} (t:TypeId) (h:binC op k x n=some v) (hk:op=.shl∨op=.shr∨k'=k) (w:World) :
  (binOp op t (.int k x) (.int k' n)).run P w=.ok v w:=by
 cases op<;>simp only [binC,reduceCtorEq] at h<;>(split at h<;>simp at h; subst h; rename_i hn)
 ·obtain rfl:k'=k:=by simpa using hk
  simp [binOp,Op.intDiv,hn]
 ·obtain rfl:k'=k:=by simpa using hk
  simp [binOp,Op.intDiv,hn]
 ·simp [binOp,Op.shift,hn]
 ·simp [binOp,Op.shift,hn]
def binS (op:BinOp) (a b:ByteArray):Option Value:=
 match op with
 | .eql=>some (.bool (a.toList==b.toList))
 | .neq=>some (.bool !(a.toList==b.toList))
 | .lss=>some (.bool (Op.bytesLess a.toList b.toList))
 | .gtr=>some (.bool !(Op.bytesLess a.toList b.toList || a.toList==b.toList))
 | _=>none
def isIntT (P:Program) (t:TypeId):Option IntKind:=match P.underlying t with | some (.int k)=>some k | _=>none
def isBoolT (P:Program) (t:TypeId):Bool:=match P.underlying t with | some .bool=>true | _=>false
def isPtrT (P:Program) (t:TypeId):Bool:=match P.underlying t with | some (.pointer _)=>true | _=>false
def isSlcT (P:Program) (t:TypeId):Bool:=match P.underlying t with | some (.slice _)=>true | _=>false
def isStrT (P:Program) (t:TypeId):Bool:=match P.underlying t with | some .string=>true | _=>false
def hasT (P:Program) (t:TypeId):Bool:=match P.underlying t with | some _=>true | none=>false
def litI (x:Operand):Option Int:=match x with | .const (.int _ n)=>some n | _=>none
def litNilP (x:Operand):Bool:=match x with | .const (.pointer none)=>true | _=>false
def litNilS (x:Operand):Bool:=match x with | .const (.slice none _ _)=>true | _=>false
def isNilFO (y:Operand):Bool:=match y with | .const .nilFunc=>true | _=>false
def evBin (P:Program) (op:BinOp) (t:TypeId) (y:Operand) (vx vy:Value):Option Value:=
 match isNilFO y with
 | true=>none
 | false=>match vx,vy with
 | .int k a,.int k' b=>match litI y with
  | some n=>match binC op k a n with
   | some v=>if k'=k then some v else none
   | none=>if k'=k then binI op k a b else none
  | none=>if k'=k then binI op k a b else none
 | .bool a,.bool b=>bif isBoolT P t then (match op with | .eql=>some (.bool (a==b)) | .neq=>some (.bool (!(a==b))) | _=>none) else none
 | .string a,.string b=>binS op a b
 | .pointer p,_=>bif isPtrT P t&&litNilP y then (match op with | .eql=>some (.bool p.isNone) | .neq=>some (.bool (!p.isNone)) | _=>none) else none
 | .slice a n c,_=>bif isSlcT P t&&litNilS y then (match op with | .eql=>some (.bool a.isNone) | .neq=>some (.bool (!a.isNone)) | _=>none) else none
 | .float k a,.float k' b=>if k'=k then (match op with
  | .eql=>some (.bool (k.format.order a b==some .eq))
  | .neq=>some (.bool (k.format.order a b != some .eq))
  | .lss=>some (.bool (k.format.order a b==some .lt))
  | .leq=>some (.bool (k.format.order a b==some .lt || k.format.order a b==some .eq))
  | .gtr=>some (.bool (k.format.order a b==some .gt))
  | .geq=>some (.bool (k.format.order a b==some .gt || k.format.order a b==some .eq))
  | _=>none) else none
 | _,_=>none
theorem litI_spec {y:Operand} {n:Int} (h:litI y=some n):∃k,y=.const (.int k n):=by
 unfold litI at h; split at h
 ·simp at h; subst h; exact ⟨_,rfl⟩
 ·cases h
theorem litNilP_spec {y:Operand} (h:litNilP y=true):y=.const (.pointer none):=by
 unfold litNilP at h; split at h
 ·rfl
 ·cases h
theorem litNilS_spec {y:Operand} (h:litNilS y=true):∃n c,y=.const (.slice none n c):=by
 unfold litNilS at h; split at h
 ·exact ⟨_,_,rfl⟩
 ·cases h
theorem isBoolT_spec {P:Program} {t:TypeId} (h:isBoolT P t=true):P.underlying t=some .bool:=by
 unfold isBoolT at h; split at h
 ·assumption
 ·cases h
theorem isPtrT_spec {P:Program} {t:TypeId} (h:isPtrT P t=true):P.underlying t=some (.pointer (P.pointee t)):=by
 unfold isPtrT at h; split at h
 ·rename_i e he; simp [Program.pointee,he]
 ·cases h
theorem isSlcT_spec {P:Program} {t:TypeId} (h:isSlcT P t=true):P.underlying t=some (.slice (P.elem t)):=by
 unfold isSlcT at h; split at h
 ·rename_i e he; simp [Program.elem,he]
 ·cases h
theorem isStrT_spec {P:Program} {t:TypeId} (h:isStrT P t=true):P.underlying t=some .string:=by
 unfold isStrT at h; split at h
 ·assumption
 ·cases h
theorem isIntT_spec {P:Program} {t:TypeId} {k:IntKind} (h:isIntT P t=some k):P.underlying t=some (.int k):=by
 unfold isIntT at h; split at h
 ·rename_i e he; simp at h; subst h; exact he
 ·cases h
theorem run_eql_slice_nil' {P:Program} {t e:TypeId} (h:P.underlying t=some (.slice e)) (a:Option Addr) (n c n' c':Nat) (w:World) :
  (Op.equal t (.slice a n c) (.slice none n' c')).run P w=.ok a.isNone w:=by
 have key:∀d,(Op.equalIn (d+1) t (.slice a n c) (.slice none n' c')).run P w=.ok a.isNone w:=by
  intro d
  cases a<;>simp [Op.equalIn,run_underlying h]
 exact key 9999
theorem evBin_spec {P:Program} {op:BinOp} {t yt:TypeId} {x y:Operand} {vx vy v:Value} {a:Act} (h:evBin P op t y vx vy=some v) (hy:a.eval y=vy) (w:World) :
  (do eqGuard op t x y vx vy; binOp op t vx vy:Sem Value).run P w=.ok v w:=by
 unfold evBin at h
 cases hyn:isNilFO y with
 | true=>rw [hyn] at h; cases h
 | false=>
 rw [hyn] at h
 simp only [] at h
 split at h
 ·rename_i k n k' b
  simp only [eqGuard_at_int,Sem.run_bind,Sem.run_pure,Result.andThen_ok]
  split at h
  ·rename_i m hm
   obtain ⟨kk,rfl⟩:=litI_spec hm
   simp only [Act.eval] at hy
   obtain ⟨rfl,rfl⟩:kk=k'∧m=b:=by simpa using hy
   split at h
   ·rename_i u hu
    split at h
    ·rename_i hk; subst hk; simp at h; subst h
     exact binC_spec t hu (.inr (.inr rfl)) w
    ·cases h
   ·split at h
    ·rename_i hk; subst hk; exact binI_spec t h w
    ·cases h
  ·split at h
   ·rename_i hk; subst hk; exact binI_spec t h w
   ·cases h
 ·rename_i p q
  cases hb:isBoolT P t with
  | false=>rw [hb] at h; simp at h
  | true=>
   rw [hb] at h
   have ht:=isBoolT_spec hb
   simp only [eqGuard_at_bool,Sem.run_bind,Sem.run_pure,Result.andThen_ok]
   simp only [cond_true] at h
   split at h
   ·simp at h; subst h; exact run_eql_bool w t p q ht
   ·simp at h; subst h; exact run_neq_bool w t p q ht
   ·cases h
 ·rename_i p q
  simp only [eqGuard_at_string,Sem.run_bind,Sem.run_pure,Result.andThen_ok]
  unfold binS at h
  split at h
  ·simp only [Option.some.injEq] at h; subst h; simp only [binOp,Op.stringOp]; rfl
  ·simp only [Option.some.injEq] at h; subst h; simp only [binOp,Op.stringOp]; rfl
  ·simp only [Option.some.injEq] at h; subst h; simp only [binOp,Op.stringOp]; rfl
  ·simp only [Option.some.injEq] at h; subst h; simp only [binOp,Op.stringOp]; rfl
  ·cases h
 ·rename_i _ p
  cases hb:isPtrT P t&&litNilP y with
  | false=>rw [hb] at h; simp at h
  | true=>
   rw [hb] at h
   simp only [Bool.and_eq_true] at hb
   have ht:=isPtrT_spec hb.1
   rw [litNilP_spec hb.2] at hy
   simp only [Act.eval] at hy
   subst hy
   simp only [eqGuard_at_pointer,Sem.run_bind,Sem.run_pure,Result.andThen_ok]
   simp only [cond_true] at h
   split at h
   ·simp at h; subst h; exact run_eql_pointer_nil w t p ht
   ·simp at h; subst h; rw [run_neq_pointer_nil w t p ht]; simp
   ·cases h
 ·rename_i p n c _
  cases hb:isSlcT P t&&litNilS y with
  | false=>rw [hb] at h; simp at h
  | true=>
   rw [hb] at h
   simp only [Bool.and_eq_true] at hb
   have ht:=isSlcT_spec hb.1
   obtain ⟨n',c',hy'⟩:=litNilS_spec hb.2
   rw [hy'] at hy
   simp only [Act.eval] at hy
   subst hy
   simp only [eqGuard_at_slice,Sem.run_bind,Sem.run_pure,Result.andThen_ok]
   simp only [cond_true] at h
   split at h
   ·simp at h; subst h; simp only [binOp]; simp [run_eql_slice_nil' ht]
   ·simp at h; subst h; simp only [binOp]; simp [run_eql_slice_nil' ht]
   ·cases h
 ·rename_i k p k' q
  split at h
  ·rename_i hk; subst hk
   simp only [eqGuard_at_float,Sem.run_bind,Sem.run_pure,Result.andThen_ok]
   split at h<;>first | (simp only [Option.some.injEq] at h; subst h; simp [binOp,Op.floatCmp]; done) | cases h
  ·cases h
 ·cases h
def fieldsOf (P:Program) (t:TypeId):Option (Array Field):=match P.underlying t with | some (.struct fs)=>some fs | _=>none
theorem fieldsOf_spec {P:Program} {t:TypeId} {fs:Array Field} (h:fieldsOf P t=some fs):P.underlying t=some (.struct fs):=by
 unfold fieldsOf at h; split at h
 ·simp at h; subst h; assumption
 ·cases h
def sizeOfT (P:Program) (t:TypeId):Option Nat:=match P.info? t with | some i=>some i.size | none=>none
theorem sizeOfT_spec {P:Program} {t:TypeId} {n:Nat} (h:sizeOfT P t=some n) (w:World):(sizeOf t).run P w=.ok n w:=by
 unfold sizeOfT at h; split at h
 ·rename_i i hi; simp at h; subst h; simp [sizeOf,typeInfo,hi]
 ·cases h
def cut (cs:List Value) (off n:Nat):List Value:=(cs.drop off).take n
def partT (P:Program) (t:TypeId) (cs:Array Value) (off:Nat):Option Value:=
 match isAggB P t,sizeOfT P t with
 | some true,some n=>some (.agg (cut cs.toList off n).toArray)
 | some false,_=>cs.toList[off]?
 | _,_=>none
theorem partT_spec {P:Program} {t:TypeId} {cs:Array Value} {off:Nat} {v:Value} (h:partT P t cs off=some v) (w:World):(part t cs off).run P w=.ok v w:=by
 unfold partT at h
 split at h
 ·rename_i n hb hn
  simp at h; subst h
  simp only [part,Sem.run_bind,run_isAgg hb,Result.andThen_ok,if_true,sizeOfT_spec hn]
  simp only [Sem.run_pure]
  congr 2
  apply Array.ext'
  simp [cut,List.extract_eq_take_drop]
 ·rename_i hb
  have h':cs[off]?=some v:=by simpa using h
  simp [part,run_isAgg hb,h']
 ·cases h
def minL (op:Builtin):Value→List Value→Option Value
 | v,[]=>some v
 | .int k x,.int _ y :: r=>match op with
  | .max=>minL op (.int k (if y>x then y else x)) r
  | .min=>minL op (.int k (if y<x then y else x)) r
  | _=>none
 | _,_=>none
theorem minL_min {P:Program} : ∀{vs:List Value} {v u:Value} (w:World),minL .min v vs=some u→(vs.foldlM Builtin.min2 v).run P w=.ok u w
 | [],v,u,w,h=>by simp [minL] at h; subst h; rfl
 | y :: r,v,u,w,h=>by
  unfold minL at h
  split at h
  ·simp_all
  ·rename_i k x k' y' r' heq
   simp at heq; obtain ⟨rfl,rfl⟩:=heq
   simp [Builtin.min2,minL_min w h]
  ·cases h
theorem minL_max {P:Program} : ∀{vs:List Value} {v u:Value} (w:World),minL .max v vs=some u→(vs.foldlM Builtin.max2 v).run P w=.ok u w
 | [],v,u,w,h=>by simp [minL] at h; subst h; rfl
 | y :: r,v,u,w,h=>by
  unfold minL at h
  split at h
  ·simp_all
  ·rename_i k x k' y' r' heq
   simp at heq; obtain ⟨rfl,rfl⟩:=heq
   simp [Builtin.max2,minL_max w h]
  ·cases h
def evBuiltin (P:Program) (b:Builtin) (ts:List TypeId) (vs:List Value):Option Value:=
 match b with
 | .len=>match ts,vs with
  | [t],[.slice _ n _]=>bif isSlcT P t then some (.int .i64 n) else none
  | [t],[.string s]=>bif isStrT P t then some (.int .i64 s.size) else none
  | _,_=>none
 | .cap=>match ts,vs with
  | [t],[.slice _ _ c]=>bif isSlcT P t then some (.int .i64 c) else none
  | _,_=>none
 | .min=>match vs with | v :: r=>minL .min v r | []=>none
 | .max=>match vs with | v :: r=>minL .max v r | []=>none
 | _=>none
theorem evBuiltin_spec {P:Program} {b:Builtin} {ts:Array TypeId} {vs:List Value} {v:Value} (h:evBuiltin P b ts.toList vs=some v) (ty:TypeId) (cs:Array Bool) (w:World) :
  (builtin b ts ty cs vs.toArray).run P w=.ok (.value v) w:=by
 unfold evBuiltin at h
 split at h
 ·split at h
  ·rename_i t p n c hts
   cases hb:isSlcT P t with
   | false=>rw [hb] at h; simp at h
   | true=>
    rw [hb] at h; simp at h; subst h
    obtain rfl:ts=#[t]:=by apply Array.ext'; simpa using hts
    have:=isSlcT_spec hb
    simp [builtin,Builtin.len_,run_underlying this,goInt]
  ·rename_i t s hts
   cases hb:isStrT P t with
   | false=>rw [hb] at h; simp at h
   | true=>
    rw [hb] at h; simp at h; subst h
    obtain rfl:ts=#[t]:=by apply Array.ext'; simpa using hts
    have:=isStrT_spec hb
    simp [builtin,Builtin.len_,run_underlying this,goInt]
  ·cases h
 ·split at h
  ·rename_i t p n c hts
   cases hb:isSlcT P t with
   | false=>rw [hb] at h; simp at h
   | true=>
    rw [hb] at h; simp at h; subst h
    obtain rfl:ts=#[t]:=by apply Array.ext'; simpa using hts
    have:=isSlcT_spec hb
    simp [builtin,Builtin.cap_,run_underlying this,goInt]
  ·cases h
 ·split at h
  ·simp [builtin,Builtin.min_,minL_min w h]
  ·cases h
 ·split at h
  ·simp [builtin,Builtin.max_,minL_max w h]
  ·cases h
 ·cases h
end Go.Proofs.YtmhjehodfggleaaGreat.Vc

/- The verification-condition generator, third part: what an operation comes to, and the proof. -/

set_option linter.unusedVariables false
set_option linter.unusedSimpArgs false
namespace Go.Proofs.YtmhjehodfggleaaGreat.Vc
open Go
def concB (P:Program) (t:TypeId):Bool:=match P.underlying t with | some (.interface _)=>false | none=>false | _=>true
theorem concB_spec {P:Program} {t:TypeId} (h:concB P t=true):P.concrete t=true:=by
 unfold concB at h; unfold Program.concrete
 split at h<;>simp_all
def fillL (place:Nat→Option (Nat×Nat)):List Value→List (Nat×Value)→Option (List Value)
 | cells,[]=>some cells
 | cells,(i,v) :: rest=>match place i with
  | none=>none
  | some (off,size)=>bif Nat.beq (cellsL v).length size&&Nat.ble (off+(cellsL v).length) cells.length
   then fillL place (cells.take off++(cellsL v++cells.drop (off+(cellsL v).length))) rest else none
theorem foldl_set (vs:List Value):∀(k:Nat) (off:Nat) (cs:Array Value),off+k+vs.length≤cs.size→
  ((vs.zipIdx k).foldl (fun cs (p:Value×Nat)=>cs.setIfInBounds (off+p.2) p.1) cs).toList=cs.toList.take (off+k)++(vs++cs.toList.drop (off+k+vs.length)):=by
 induction vs with
 | nil=>intro k off cs h; simp
 | cons v vs ih=>
  intro k off cs h
  simp only [List.length_cons] at h
  rw [List.zipIdx_cons,List.foldl_cons,ih (k+1) off _ (by simp; omega)]
  simp only [Array.toList_setIfInBounds]
  rw [show off+(k+1)=(off+k)+1 by omega,List.take_succ_eq_append_getElem (by simp; omega),List.getElem_set_self,List.take_set_of_le (by omega)]
  rw [show off+k+1+vs.length=off+k+(vs.length+1) by omega,List.drop_set_of_lt (by omega)]
  simp
theorem fillL_spec {place:Nat→Option (Nat×Nat)} : ∀{parts:List (Nat×Value)} {cells cs:List Value},fillL place cells parts=some cs→
  Instr.fill place cells.toArray parts=some cs.toArray
 | [],cells,cs,h=>by simp [fillL] at h; subst h; rfl
 | (i,v) :: rest,cells,cs,h=>by
  unfold fillL at h
  unfold Instr.fill
  split at h
  ·cases h
  ·rename_i off size hp
   simp only [hp]
   cases hb:Nat.beq (cellsL v).length size&&Nat.ble (off+(cellsL v).length) cells.length with
   | false=>rw [hb] at h; simp at h
   | true=>
    rw [hb] at h
    simp only [cond_true] at h
    simp only [Bool.and_eq_true] at hb
    have h1:=Nat.eq_of_beq_eq_true hb.1
    have h2:=Nat.le_of_ble_eq_true hb.2
    have hl:v.cells.size=(cellsL v).length:=by simp [cellsL_eq]
    have hn:¬(v.cells.size≠size || off+v.cells.size>cells.toArray.size)=true:=by
     simp [hl,h1]; rw [←h1]; exact h2
    rw [if_neg hn]
    have he:Array.foldl (fun cs (x:Value×Nat)=>match x with | (c,j)=>cs.setIfInBounds (off+j) c) cells.toArray v.cells.zipIdx
      =(cells.take off++(cellsL v++cells.drop (off+(cellsL v).length))).toArray:=by
     apply Array.ext'
     have:=foldl_set (cellsL v) 0 off cells.toArray (by simpa using h2)
     simp only [Nat.add_zero] at this
     rw [←this,←Array.foldl_toList]
     simp [cellsL_eq]
    rw [he]
    exact fillL_spec h
def placesOf (P:Program):List Field→Option (List (Nat×Nat))
 | []=>some []
 | f :: fs=>match sizeOfT P f.type,placesOf P fs with
  | some n,some r=>some ((f.offset,n) :: r)
  | _,_=>none
theorem placesOf_spec {P:Program} (w:World):∀{fs:List Field} {r:List (Nat×Nat)},placesOf P fs=some r→
  (fs.mapM (fun f=>Prod.mk f.offset <$> sizeOf f.type:Field→Sem (Nat×Nat))).run P w=.ok r w
 | [],r,h=>by simp [placesOf] at h; subst h; rfl
 | f :: fs,r,h=>by
  unfold placesOf at h
  split at h
  ·rename_i n r' hn hr
   simp at h; subst h
   have ih:=placesOf_spec w hr
   simp [List.mapM_cons,sizeOfT_spec hn,ih]
  ·cases h
def zeroT (P:Program) (t:TypeId):Option Value:=match P.info? t with | some i=>i.zero | none=>none
theorem zeroT_spec {P:Program} {t:TypeId} {v:Value} (h:zeroT P t=some v) (w:World):(zeroValue t).run P w=.ok v w:=by
 unfold zeroT at h; split at h
 ·rename_i i hi; simp [zeroValue,typeInfo,hi,h]
 ·cases h
def buildT (P:Program) (t:TypeId) (parts:List (Nat×Value)):Option Value:=
 match zeroT P t,P.underlying t with
 | some z,some (.struct fs)=>match placesOf P fs.toList with
  | some pl=>match fillL (fun i=>pl[i]?) (cellsL z) parts with
   | some cs=>some (.agg cs.toArray)
   | none=>none
  | none=>none
 | some z,some (.array _ e)=>match sizeOfT P e with
  | some n=>match fillL (fun i=>some (i*n,n)) (cellsL z) parts with
   | some cs=>some (.agg cs.toArray)
   | none=>none
  | none=>none
 | _,_=>none
theorem buildT_spec {P:Program} {t:TypeId} {parts:List (Nat×Value)} {v:Value} (h:buildT P t parts=some v) (w:World) :
  (Instr.build t parts.toArray).run P w=.ok v w:=by
 unfold buildT at h
 split at h
 ·rename_i z fs hz hu
  split at h
  ·rename_i pl hpl
   split at h
   ·rename_i cs hcs
    simp at h; subst h
    have hf:=fillL_spec hcs
    have hz':(cellsL z).toArray=z.cells:=by simp [cellsL_eq]
    rw [hz'] at hf
    have hm:(fs.mapM (fun f=>do pure (f.offset,←sizeOf f.type):Field→Sem (Nat×Nat))).run P w=.ok pl.toArray w:=by
     rw [Array.mapM_eq_mapM_toList]
     have ih:=placesOf_spec w hpl
     simp [ih]
    simp only [Instr.build,Sem.run_bind,zeroT_spec hz,Result.andThen_ok,run_underlying hu,hm]
    simp [hf]
   ·cases h
  ·cases h
 ·rename_i z n e hz hu
  split at h
  ·rename_i m hm
   split at h
   ·rename_i cs hcs
    simp at h; subst h
    have hf:=fillL_spec hcs
    have hz':(cellsL z).toArray=z.cells:=by simp [cellsL_eq]
    rw [hz'] at hf
    simp only [Instr.build,Sem.run_bind,zeroT_spec hz,Result.andThen_ok,run_underlying hu,sizeOfT_spec hm]
    simp [hf]
   ·cases h
  ·cases h
 ·cases h
end Go.Proofs.YtmhjehodfggleaaGreat.Vc

/- The verification-condition generator, fourth part: an operation's outcome, and the proof. -/

set_option linter.unusedVariables false
set_option linter.unusedSimpArgs false
namespace Go.Proofs.YtmhjehodfggleaaGreat.Vc
open Go
def pickT (E:Env) (p:Path) (c:Tmp) (x y:Operand):Option Value:=
 match look E c with
 | some en=>bif sufB en.path p then (match en.val with
  | .bool cb=>match opd E ((c,true) :: p) x,opd E ((c,false) :: p) y with
   | some (.bool vx),some (.bool vy)=>some (.bool (cond cb vx vy))
   | _,_=>none
  | _=>none) else none
 | none=>none
def unT (op:UnOp) (v:Value):Option Value:=
 match op,v with
 | .not,.bool b=>some (.bool !b)
 | .neg,.int k n=>some (.int k (k.wrap (0 - n)))
 | .xor,.int k n=>some (.int k (bits .xor k (if k.signed then -1 else k.max) n))
 | _,_=>none
theorem unT_spec {P:Program} {op:UnOp} {v u:Value} (h:unT op v=some u) (w:World):(Op.unary op v).run P w=.ok u w:=by
 unfold unT at h
 split at h<;>first | (simp only [Option.some.injEq] at h; subst h; rfl) | cases h
def convT (P:Program) (s d:TypeId) (v:Value):Option Value:=
 match v with
 | .int _ n=>match isIntT P d with
  | some k=>bif hasT P s then some (.int k (k.wrap n)) else none
  | none=>none
 | .string b=>bif hasT P s&&isStrT P d then some (.string b) else none
 | _=>none
theorem convT_spec {P:Program} {s d:TypeId} {v u:Value} (h:convT P s d v=some u) (w:World):(convert s d v).run P w=.ok u w:=by
 unfold convT at h
 split at h
 ·split at h
  ·rename_i k hk
   cases hb:hasT P s with
   | false=>rw [hb] at h; simp at h
   | true=>
    rw [hb] at h; simp only [cond_true,Option.some.injEq] at h; subst h
    unfold hasT at hb
    split at hb
    ·rename_i ds hds
     simp only [convert,Sem.run_bind,run_underlying hds,Result.andThen_ok,run_underlying (isIntT_spec hk)]
     cases ds<;>rfl
    ·cases hb
  ·cases h
 ·cases hb:hasT P s&&isStrT P d with
  | false=>rw [hb] at h; simp at h
  | true=>
   rw [hb] at h; simp only [cond_true,Option.some.injEq] at h; subst h
   simp only [Bool.and_eq_true] at hb
   have h1:=hb.1
   unfold hasT at h1
   split at h1
   ·rename_i ds hds
    simp only [convert,Sem.run_bind,run_underlying hds,Result.andThen_ok,run_underlying (isStrT_spec hb.2)]
    cases ds<;>rfl
   ·cases h1
 ·cases h
def fieldT (P:Program) (t:TypeId) (v:Value) (i:Nat):Option Value:=
 match v,fieldsOf P t with
 | .agg cs,some fs=>match fs.toList[i]? with
  | some f=>partT P f.type cs f.offset
  | none=>none
 | _,_=>none
theorem fieldT_spec {P:Program} {t:TypeId} {v u:Value} {i:Nat} (h:fieldT P t v i=some u) (w:World):(Instr.field t v i).run P w=.ok u w:=by
 unfold fieldT at h
 split at h
 ·rename_i cs fs hf
  split at h
  ·rename_i f hfi
   have hfi':fs[i]?=some f:=by simpa using hfi
   simp only [Instr.field,Sem.run_bind,run_underlying (fieldsOf_spec hf),Result.andThen_ok,hfi']
   simp [asAgg,partT_spec h]
  ·cases h
 ·cases h
def fieldAddrT (P:Program) (t:TypeId) (a:Addr) (i:Nat):Option Value:=
 match fieldsOf P t with
 | some fs=>match fs.toList[i]? with
  | some f=>match sizeOfT P f.type with
   | some n=>bif Nat.ble 1 n then some (.pointer (some (a.add f.offset))) else none
   | none=>none
  | none=>none
 | none=>none
theorem fieldAddrT_spec {P:Program} {t:TypeId} {a:Addr} {u:Value} {i:Nat} (h:fieldAddrT P t a i=some u) (w:World) :
  (Instr.fieldAt t (.pointer (some a)) i).run P w=.ok u w:=by
 unfold fieldAddrT at h
 split at h
 ·rename_i fs hf
  split at h
  ·rename_i f hfi
   have hfi':fs[i]?=some f:=by simpa using hfi
   split at h
   ·rename_i n hn
    cases hb:Nat.ble 1 n with
    | false=>rw [hb] at h; simp at h
    | true=>
     rw [hb] at h; simp only [cond_true,Option.some.injEq] at h; subst h
     have hn0:n≠0:=by have:=Nat.le_of_ble_eq_true hb; omega
     simp only [Instr.fieldAt,Sem.run_bind,run_underlying (fieldsOf_spec hf),Result.andThen_ok,hfi']
     simp [Instr.sureAddr,fieldPlace,sizeOfT_spec hn,hn0]
   ·cases h
  ·cases h
 ·cases h
def partsL (E:Env) (p:Path):List (Nat×Operand)→Option (List (Nat×Value))
 | []=>some []
 | (i,x) :: r=>match opd E p x,partsL E p r with
  | some v,some vs=>some ((i,v) :: vs)
  | _,_=>none
theorem partsL_spec {E:Env} {p:Path} {a:Act} (hs:Sim E a) (hp:On a p):∀{ps:List (Nat×Operand)} {vs:List (Nat×Value)},partsL E p ps=some vs→
  ps.map (fun x=>(x.1,a.eval x.2))=vs
 | [],vs,h=>by simp [partsL] at h; subst h; rfl
 | (i,x) :: r,vs,h=>by
  unfold partsL at h
  split at h
  ·rename_i v vs' h1 h2
   simp at h; subst h
   simp only [List.map_cons,opd_spec hs hp h1,partsL_spec hs hp h2]
  ·cases h
def evPure (P:Program) (o:Op) (E:Env) (p:Path):Option Value:=
 match o with
 | .move x=>opd E p x
 | .assign x=>opd E p x
 | .pick c x y=>match c with | .tmp c=>pickT E p c x y | _=>none
 | .unOp op _ x=>match opd E p x with | some v=>unT op v | none=>none
 | .binOp op t x y _=>match opd E p x,opd E p y with | some vx,some vy=>evBin P op t y vx vy | _,_=>none
 | .convert s d x=>match opd E p x with | some v=>convT P s d v | none=>none
 | .field t x i=>match opd E p x with | some v=>fieldT P t v i | none=>none
 | .extract x i=>match opd E p x with | some (.tuple vs)=>vs.toList[i]? | _=>none
 | .makeFunc fn fs cs=>match opds E p fs.toList,opds E p cs.toList with | some x,some y=>some (.func fn x.toArray y.toArray) | _,_=>none
 | .makeInterface t x=>match opd E p x with | some v=>bif concB P t then some (.iface t v) else none | none=>none
 | .fieldAddr t x i=>match opd E p x with | some (.pointer (some a))=>fieldAddrT P t a i | _=>none
 | .build t parts=>match partsL E p parts.toList with | some vs=>buildT P t vs | none=>none
 | .call c=>match c.callee with
  | .builtin b=>match opds E p c.args.toList with | some vs=>evBuiltin P b c.argTypes.toList vs | none=>none
  | _=>none
 | _=>none
theorem evPure_spec {P:Program} {o:Oper} {E:Env} {p:Path} {v:Value} {a:Act} (hs:Sim E a) (hp:On a p) (h:evPure P o.op E p=some v) (w:World) :
  (execOp a.eval o).run P w=.ok (.value v) w:=by
 obtain ⟨dst,op,type,pos,after,guard⟩:=o
 unfold evPure at h
 cases op<;>simp only [] at h<;>simp only [execOp]<;>try (cases h; done)
 case move x=>simp [opd_spec hs hp h]
 case assign x=>simp [opd_spec hs hp h]
 case pick c x y=>
  split at h
  ·rename_i c
   unfold pickT at h
   split at h
   ·rename_i en hl
    cases hb:sufB en.path p with
    | false=>rw [hb] at h; simp at h
    | true=>
     rw [hb] at h; simp only [cond_true] at h
     split at h
     ·rename_i cb hv
      have hc:=(hs c en hl).yes (hp.suf hb)
      rw [look_slot hl,hv] at hc
      have hce:a.eval (.tmp c)=.bool cb:=by simp [Act.eval,Array.getD_eq_getD_getElem?,hc]
      split at h
      ·rename_i vx vy hx hy
       simp only [Option.some.injEq] at h; subst h
       cases cb with
       | true=>
        have hon:On a ((c,true) :: p):=fun z hz=>by
         rcases List.mem_cons.1 hz with rfl | hz
         ·exact hc
         ·exact hp z hz
        simp [hce,asBool,opd_spec hs hon hx]
       | false=>
        have hon:On a ((c,false) :: p):=fun z hz=>by
         rcases List.mem_cons.1 hz with rfl | hz
         ·exact hc
         ·exact hp z hz
        simp [hce,asBool,opd_spec hs hon hy]
      ·cases h
     ·cases h
   ·cases h
  ·cases h
 case unOp op t x=>
  split at h
  ·rename_i u hu; simp [opd_spec hs hp hu,unT_spec h]
  ·cases h
 case binOp op t x y yt=>
  split at h
  ·rename_i vx vy hx hy
   have:=evBin_spec (yt:=yt) (x:=x) (P:=P) h (opd_spec hs hp hy) w
   rw [opd_spec hs hp hx,opd_spec hs hp hy]
   rw [Sem.run_bind,this]
   rfl
  ·cases h
 case convert s d x=>
  split at h
  ·rename_i u hu; rw [opd_spec hs hp hu,Sem.run_bind,convT_spec h]; rfl
  ·cases h
 case field t x i=>
  split at h
  ·rename_i u hu; rw [opd_spec hs hp hu,Sem.run_bind,fieldT_spec h]; rfl
  ·cases h
 case extract x i=>
  split at h
  ·rename_i vs hu
   have h':vs[i]?=some v:=by simpa using h
   rw [opd_spec hs hp hu,Sem.run_bind]; simp [Instr.extract,h']
  ·cases h
 case makeFunc fn fs cs=>
  split at h
  ·rename_i x y hx hy
   simp only [Option.some.injEq] at h; subst h
   have h1:=opds_spec hs hp hx
   have h2:=opds_spec hs hp hy
   have e1:fs.map a.eval=x.toArray:=by apply Array.ext'; simpa using h1
   have e2:cs.map a.eval=y.toArray:=by apply Array.ext'; simpa using h2
   simp [Instr.makeFunc,e1,e2]
  ·cases h
 case makeInterface t x=>
  split at h
  ·rename_i u hu
   cases hb:concB P t with
   | false=>rw [hb] at h; simp at h
   | true=>
    rw [hb] at h; simp only [cond_true,Option.some.injEq] at h; subst h
    rw [opd_spec hs hp hu,Sem.run_bind,run_makeInterface _ _ _ (concB_spec hb)]; rfl
  ·cases h
 case fieldAddr t x i=>
  split at h
  ·rename_i u hu; rw [opd_spec hs hp hu,Sem.run_bind,fieldAddrT_spec h]; rfl
  ·cases h
 case build t parts=>
  split at h
  ·rename_i vs hu
   have h1:=partsL_spec hs hp hu
   have e1:(parts.map fun (i,x)=>(i,a.eval x))=vs.toArray:=by apply Array.ext'; simpa using h1
   rw [e1,Sem.run_bind,buildT_spec h]; rfl
  ·cases h
 case call c=>
  split at h
  ·rename_i b hb
   split at h
   ·rename_i vs hu
    have h1:=opds_spec hs hp hu
    have e1:c.args.map a.eval=vs.toArray:=by apply Array.ext'; simpa using h1
    simp only [resolve,hb,Sem.run_bind,Sem.run_pure,Result.andThen_ok,invoke,e1]
    exact evBuiltin_spec h _ _ w
   ·cases h
  ·cases h
end Go.Proofs.YtmhjehodfggleaaGreat.Vc

/- The verification-condition generator, fifth part: operations that read, write, ask or call. -/

set_option linter.unusedVariables false
set_option linter.unusedSimpArgs false
namespace Go.Proofs.YtmhjehodfggleaaGreat.Vc
open Go
def kdOf (P:Program) (t:TypeId):Option Kd:=
 match isAggB P t,leaves P t with
 | some false,some [l]=>some (.one l)
 | some true,some ls=>some (.agg ls)
 | _,_=>none
inductive RK where
 | one (k:Kd)
 | tup (ks:List Kd)
def kdsOf (P:Program):List TypeId→Option (List Kd)
 | []=>some []
 | t :: ts=>match kdOf P t,kdsOf P ts with | some k,some ks=>some (k :: ks) | _,_=>none
def rkOf (P:Program) (t:TypeId):Option RK:=
 match P.underlying t with
 | some (.tuple ts)=>match kdsOf P ts.toList with | some ks=>some (.tup ks) | none=>none
 | some _=>match kdOf P t with | some k=>some (.one k) | none=>none
 | none=>none
def exL:Leaf→(Value→Prop)→Prop
 | .int k,f=>∃x:Int,f (.int k x)
 | .bool,f=>∃x:Bool,f (.bool x)
 | .flt k,f=>∃x:Nat,f (.float k x)
 | .str,f=>∃x:ByteArray,f (.string x)
 | .ptr,f=>∃x:Option Addr,f (.pointer x)
 | .slc,f=>∃(x:Option Addr) (n c:Nat),f (.slice x n c)
 | .mp,f=>∃x:Option Nat,f (.map x)
 | .any,f=>∃x:Value,f x
theorem exL_spec {l:Leaf} {f:Value→Prop} (h:exL l f):∃v,f v:=by
 cases l
 case slc=>obtain ⟨x,n,c,h⟩:=h; exact ⟨_,h⟩
 all_goals (obtain ⟨x,h⟩:=h; exact ⟨_,h⟩)
def exLs:List Leaf→(List Value→Prop)→Prop
 | [],f=>f []
 | l :: ls,f=>exL l fun v=>exLs ls fun vs=>f (v :: vs)
theorem exLs_spec:∀{ls:List Leaf} {f:List Value→Prop},exLs ls f→∃v,f v
 | [],f,h=>⟨[],h⟩
 | l :: ls,f,h=>by
  obtain ⟨v,h⟩:=exL_spec h
  obtain ⟨vs,h⟩:=exLs_spec h
  exact ⟨_,h⟩
def exK:Kd→(Value→Prop)→Prop
 | .one l,f=>exL l f
 | .agg ls,f=>exLs ls fun vs=>f (.agg vs.toArray)
 | .unit,f=>f (.tuple #[])
 | .adr,f=>∃a:Addr,f (.pointer (some a))
theorem exK_spec {k:Kd} {f:Value→Prop} (h:exK k f):∃v,f v:=by
 cases k with
 | one l=>exact exL_spec h
 | agg ls=>obtain ⟨vs,h⟩:=exLs_spec h; exact ⟨_,h⟩
 | unit=>exact ⟨_,h⟩
 | adr=>obtain ⟨a,h⟩:=h; exact ⟨_,h⟩
def exKs:List Kd→(List Value→Prop)→Prop
 | [],f=>f []
 | k :: ks,f=>exK k fun v=>exKs ks fun vs=>f (v :: vs)
theorem exKs_spec:∀{ks:List Kd} {f:List Value→Prop},exKs ks f→∃v,f v
 | [],f,h=>⟨[],h⟩
 | k :: ks,f,h=>by
  obtain ⟨v,h⟩:=exK_spec h
  obtain ⟨vs,h⟩:=exKs_spec h
  exact ⟨_,h⟩
def exR:RK→(Value→Prop)→Prop
 | .one k,f=>exK k f
 | .tup ks,f=>exKs ks fun vs=>f (.tuple vs.toArray)
theorem exR_spec {r:RK} {f:Value→Prop} (h:exR r f):∃v,f v:=by
 cases r with
 | one k=>exact exK_spec h
 | tup ks=>obtain ⟨vs,h⟩:=exKs_spec h; exact ⟨_,h⟩
def fnOk (P : Program) (k : FuncId) : Bool :=
  match P.funcs[k]? with
  | some fn => !(fn.name == "runtime.NumGoroutine") && fn.body.isSome
  | none => false
def cl (P:Program) (k:FuncId) (args:List Value) (w:World) (R:Ending→World→Prop):Prop:=fnOk P k=true∧Calls P k args.toArray w R
def clF (P:Program) (fv:Value) (args:List Value) (w:World) (R:Ending→World→Prop):Prop:=
 ∃k first cap,fv=.func (.func k) first cap∧cl P k (first.toList++args++cap.toList) w R
theorem run_callFunc_enter {P : Program} {k : FuncId} (h : fnOk P k = true) (args : Array Value) (w : World) : (callFunc k args).run P w = .ok (.enter k args) w := by
  unfold fnOk at h
  split at h
  · rename_i fn hf
    simp only [Bool.and_eq_true, Bool.not_eq_true'] at h
    have hn : ¬ fn.name = "runtime.NumGoroutine" := by have := h.1; simpa using this
    have hb : ¬ fn.body = none := by intro hbb; simp [hbb] at h
    simp [callFunc, hf, hn, hb]
  · cases h

def adr (v:Option Value) (K:Addr→Prop):Prop:=match v with | some (.pointer q)=>nn q K | _=>False
theorem adr_spec {v:Option Value} {K:Addr→Prop} (h:adr v K):∃a,v=some (.pointer (some a))∧K a:=by
 unfold adr at h; split at h
 ·obtain ⟨a,rfl,h⟩:=nn_spec h; exact ⟨a,rfl,h⟩
 ·exact h.elim
def rnR (P:Program) (s:Sem Value) (r:Option RK) (w:World) (K:Value→World→Prop):Prop:=
 match r with
 | some r=>exR r fun v=>∃w',s.run P w=.ok v w'∧K v w'
 | none=>False
theorem rnR_spec {P:Program} {s:Sem Value} {r:Option RK} {w:World} {K:Value→World→Prop} (h:rnR P s r w K):∃v w',s.run P w=.ok v w'∧K v w':=by
 unfold rnR at h; split at h
 ·obtain ⟨v,w',h⟩:=exR_spec h; exact ⟨v,w',h⟩
 ·exact h.elim
def elemOfT (P:Program) (t:TypeId):Option (TypeId×Nat):=
 match P.underlying t with
 | some (.slice e)=>match sizeOfT P e with | some n=>some (e,n) | none=>none
 | _=>none
def arrOfT (P:Program) (t:TypeId):Option (Nat×TypeId×Nat):=
 match P.underlying t with
 | some (.array m e)=>match sizeOfT P e with | some n=>some (m,e,n) | none=>none
 | _=>none
def bSem (b:Builtin) (ts:Array TypeId) (ty:TypeId) (args:Array Value):Option (Sem Value):=
 match b with
 | .append=>some (Builtin.append_ ts ty args)
 | .copy=>some (Builtin.copy_ ts ty args)
 | .delete=>some (Builtin.delete_ ts ty args)
 | .clear=>some (Builtin.clear_ ts ty args)
 | .len=>some (Builtin.len_ ts ty args)
 | _=>none
def sl2 (len cap:Nat) (lo hi:Option Value) (K:Nat→Nat→Prop):Prop:=
 match lo,hi with
 | none,none=>K 0 len
 | none,some (.int _ h)=>0≤h∧h≤cap∧K 0 h.toNat
 | some (.int _ l),none=>0≤l∧l≤len∧K l.toNat len
 | some (.int _ l),some (.int _ h)=>0≤h∧h≤cap∧0≤l∧l≤h∧K l.toNat h.toNat
 | _,_=>False
def opdO (E:Env) (p:Path):Option Operand→Option (Option Value)
 | none=>some none
 | some x=>match opd E p x with | some v=>some (some v) | none=>none
def slA (a:Option Addr) (c l sz:Nat):Option Addr:=if c=l then a else a.map (·.add (l*sz))
def sliceP (P:Program) (t:TypeId) (x:Value) (lo hi:Option Value) (K:Value→Prop):Prop:=
 match x with
 | .string s=>match isStrT P t with
  | true=>sl2 s.size s.size lo hi fun l h=>K (.string (s.extract l h))
  | false=>False
 | .slice a n c=>match elemOfT P t with
  | some (_,sz)=>sl2 n c lo hi fun l h=>K (.slice (slA a c l sz) (h - l) (c - l))
  | none=>False
 | .pointer q=>match arrOfT P t with
  | some (m,_,sz)=>nn q fun a=>sl2 m m lo hi fun l h=>K (.slice (slA (some a) m l sz) (h - l) (m - l))
  | none=>False
 | _=>False
def sl3 (cap:Nat) (lo hi:Option Value) (mx:Value) (K:Nat→Nat→Nat→Prop):Prop:=
 match lo,hi,mx with
 | none,some (.int _ h),.int _ m=>0≤m∧m≤cap∧0≤h∧h≤m∧K 0 h.toNat m.toNat
 | some (.int _ l),some (.int _ h),.int _ m=>0≤m∧m≤cap∧0≤h∧h≤m∧0≤l∧l≤h∧K l.toNat h.toNat m.toNat
 | _,_,_=>False
def slice3P (P:Program) (t:TypeId) (x:Value) (lo hi:Option Value) (mx:Value) (K:Value→Prop):Prop:=
 match x with
 | .slice a _ c=>match elemOfT P t with
  | some (_,sz)=>sl3 c lo hi mx fun l h m=>K (.slice (slA a m l sz) (h - l) (m - l))
  | none=>False
 | _=>False
def nkA (v:Value):Bool:=match v with | .iface _ _=>true | .func (.func _) _ _=>true | _=>false
def clM (P:Program) (rv:Value) (name:String) (args:List Value) (w:World) (R:Ending→World→Prop):Prop:=
 ∃(t:TypeId) (v:Value) (k:FuncId) (rcv:Value),rv=.iface t v∧(∀w,(method (P.types.size+Made.depth) t v name).run P w=.ok (k,rcv) w)∧cl P k (rcv :: args) w R
def indexAddrP (P:Program) (t:TypeId) (x i:Value) (K:Value→Prop):Prop:=
 match i with
 | .int _ i=>match x with
  | .slice a n _=>match elemOfT P t with
   | some (_,sz)=>ixA a n i sz fun a=>K (.pointer (some a))
   | none=>False
  | .pointer q=>match arrOfT P t with
   | some (m,_,sz)=>ixA q m i sz fun a=>K (.pointer (some a))
   | none=>False
  | _=>False
 | _=>False
def pk (l:Leaf) (cs:List Value) (i:Int) (n:Nat) (K:Value→Prop):Prop:=0≤i∧i<n∧exL l fun v=>cs[i.toNat]?=some v∧K v
def byteAt (s:ByteArray) (i:Int):Int:=match s[i.toNat]? with | some b=>b.toNat | none=>0
def indexP (P:Program) (t:TypeId) (x i:Value) (K:Value→Prop):Prop:=
 match i with
 | .int _ i=>match x with
  | .string s=>match isStrT P t with
   | true=>0≤i∧i<s.size∧K (.int .u8 (byteAt s i))
   | false=>False
  | .agg cs=>match arrOfT P t with
   | some (m,e,sz)=>match kdOf P e,Nat.beq sz 1 with
    | some (.one l),true=>pk l cs.toList i m K
    | _,_=>False
   | none=>False
  | _=>False
 | _=>False
def binP (op:BinOp) (vx vy:Value) (K:Value→Prop):Prop:=
 match vx,vy with
 | .int k a,.int k' b=>match op with
  | .quo=>(if k'=k then b≠0∧K (.int k (k.wrap (a.tdiv b))) else False)
  | .rem=>(if k'=k then b≠0∧K (.int k (a.tmod b)) else False)
  | .shl=>0≤b∧K (.int k (k.wrap (a*2 ^ (min b.toNat k.bits))))
  | .shr=>0≤b∧K (.int k (a.fdiv (2 ^ (min b.toNat k.bits))))
  | _=>False
 | .float k a,.float k' b=>(if k'=k then (match op with
  | .add=>∃r,k.format.add a b=some r∧K (.float k r)
  | .sub=>∃r,k.format.sub a b=some r∧K (.float k r)
  | .mul=>∃r,k.format.mul a b=some r∧K (.float k r)
  | .quo=>∃r,k.format.div a b=some r∧K (.float k r)
  | _=>False) else False)
 | _,_=>False
def isFn (v:Value):Bool:=match v with | .func ..=>true | .nilFunc=>true | _=>false
def isNilF (v:Value):Bool:=match v with | .nilFunc=>true | _=>false
def litNilF (x:Operand):Bool:=match x with | .const .nilFunc=>true | _=>false
def isFuncT (P:Program) (t:TypeId):Bool:=match P.underlying t with | some (.func _ _ _)=>true | _=>false
def eqV (P:Program) (op:BinOp) (t:TypeId) (vx vy:Value) (K:Bool→Prop):Prop:=
 ∃b,(∀(w:World) (x y:Operand),(do eqGuard op t x y vx vy; binOp op t vx vy:Sem Value).run P w=.ok (.bool b) w)∧K b
def isAggV (v:Value):Bool:=match v with | .agg _=>true | _=>false
def binQ (P:Program) (op:BinOp) (t:TypeId) (y:Operand) (vx vy:Value) (K:Value→Prop):Prop:=
 match litNilF y&&isFuncT P t with
 | true=>(match op with
  | .eql=>isFn vx=true∧K (.bool (isNilF vx))
  | .neq=>isFn vx=true∧K (.bool !(isNilF vx))
  | _=>False)
 | false=>match isAggV vy with
  | true=>eqV P op t vx vy fun b=>K (.bool b)
  | false=>binP op vx vy K
def rnA (P:Program) (s:Sem Value) (w:World) (K:Value→World→Prop):Prop:=∃(a:Addr) (w':World),s.run P w=.ok (.pointer (some a)) w'∧K (.pointer (some a)) w'
def nxP (P:Program) (s:Sem Value) (w:World) (K:Value→World→Prop):Prop:=
 ∃(b:Bool) (vs:List Value) (w':World),s.run P w=.ok (.tuple (.bool b :: vs).toArray) w'∧K (.tuple (.bool b :: vs).toArray) w'
def enP (P:Program) (s:Sem Value) (w:World) (K:Value→World→Prop):Prop:=
 ∃(x y:Int) (w':World),s.run P w=.ok (.tuple #[.int .i64 x,.int .i64 y]) w'∧K (.tuple #[.int .i64 x,.int .i64 y]) w'
def evPrim (P:Program) (o:Oper) (E:Env) (p:Path) (w:World) (K:Value→World→Prop):Prop:=
 match o.op with
 | .load t x=>adr (opd E p x) fun a=>loadT P t a w fun v=>K v w
 | .store t x y=>adr (opd E p x) fun a=>match opd E p y with | some v=>storeT P t a v w fun w'=>K undef w' | none=>False
 | .alloc t=>match zeroT P t with | some z=>alc w (cellsL z) t fun b w'=>K (.pointer (some ⟨b,0,none⟩)) w' | none=>False
 | .box t x=>match opd E p x with
  | some v=>(match leaves P t with
   | some [.any]=>v.oneCell'=true∧alc w [v] t fun b w'=>K (.pointer (some ⟨b,0,none⟩)) w'
   | _=>alc w (cellsL v) t fun b w'=>K (.pointer (some ⟨b,0,none⟩)) w')
  | none=>False
 | .buildSlice t n parts=>match elemOfT P t,partsL E p parts.toList with
  | some (e,sz),some vs=>match zeroT P e,Nat.ble (n*sz) 4096 with
   | some z,true=>match fillL (fun i=>some (i*sz,sz)) ((List.range (n*sz)).map fun i=>(cellsL z)[i%(cellsL z).length]!) vs with
    | some cs=>alc w cs e fun b w'=>K (.slice (some ⟨b,0,none⟩) n n) w'
    | none=>False
   | _,_=>False
  | _,_=>False
 | .nilCheck x=>match leaves P o.type with
  | some [.any]=>match opd E p x with | some v=>nkA v=true∧K v w | none=>False
  | _=>adr (opd E p x) fun a=>K (.pointer (some a)) w
 | .binOp op t x y _=>match opd E p x,opd E p y with | some vx,some vy=>binQ P op t y vx vy fun v=>K v w | _,_=>False
 | .indexAddr t x i=>match opd E p x,opd E p i with | some vx,some vi=>indexAddrP P t vx vi fun v=>K v w | _,_=>False
 | .index t x i=>match opd E p x,opd E p i with | some vx,some vi=>indexP P t vx vi fun v=>K v w | _,_=>False
 | .slice t x lo hi mx=>match mx with
  | none=>match opd E p x,opdO E p lo,opdO E p hi with
   | some vx,some l,some h=>sliceP P t vx l h fun v=>K v w
   | _,_,_=>False
  | some y=>match opd E p x,opdO E p lo,opdO E p hi,opd E p y with
   | some vx,some l,some h,some vm=>slice3P P t vx l h vm fun v=>K v w
   | _,_,_,_=>False
 | .makeSlice t l c=>match opd E p l,opd E p c with | some vl,some vc=>rnR P (Instr.makeSlice t vl vc) (rkOf P o.type) w K | _,_=>False
 | .makeMap t r=>match r with | none=>rnR P (Instr.makeMap t none) (rkOf P o.type) w K | some _=>False
 | .lookup t m k ok=>match opd E p m,opd E p k with | some vm,some vk=>rnR P (Instr.lookup t vm vk ok) (rkOf P o.type) w K | _,_=>False
 | .mapUpdate t m k x=>match opd E p m,opd E p k,opd E p x with | some vm,some vk,some vx=>∃w',(Instr.mapUpdate t vm vk vx).run P w=.ok () w'∧K undef w' | _,_,_=>False
 | .mapEntry t m k=>match opd E p m,opd E p k with | some vm,some vk=>enP P (Instr.mapEntry t vm vk) w K | _,_=>False
 | .entryStore t m s x=>match opd E p m,opd E p s,opd E p x with | some vm,some vs,some vx=>∃w',(Instr.entryStore t vm vs vx).run P w=.ok () w'∧K undef w' | _,_,_=>False
 | .entry x=>match opd E p x with | some vx=>enP P (Instr.entry vx) w K | none=>False
 | .range t x=>match opd E p x with | some vx=>rnA P (Instr.range t vx) w K | none=>False
 | .next x s=>match s,opd E p x with | false,some vx=>nxP P (Instr.next vx false o.type) w K | _,_=>False
 | .call c=>match c.callee with
  | .value f=>match f,opds E p c.args.toList,rkOf P o.type with
   | .func k,some vs,some r=>cl P k vs w fun e w'=>exR r fun v=>e=.returned v∧K v w'
   | .tmp t,some vs,some r=>match opd E p (.tmp t) with
    | some fv=>clF P fv vs w fun e w'=>exR r fun v=>e=.returned v∧K v w'
    | none=>False
   | _,_,_=>False
  | .invoke x name=>match opd E p x,opds E p c.args.toList,rkOf P o.type with
   | some rv,some vs,some r=>clM P rv name vs w fun e w'=>exR r fun v=>e=.returned v∧K v w'
   | _,_,_=>False
  | .builtin b=>match opds E p c.args.toList with
   | some vs=>match bSem b c.argTypes o.type vs.toArray with
    | some s=>rnR P s (rkOf P o.type) w K
    | none=>False
   | none=>False
 | _=>False
theorem rnA_spec {P:Program} {s:Sem Value} {w:World} {K:Value→World→Prop} (h:rnA P s w K):∃v w',s.run P w=.ok v w'∧K v w':=by
 obtain ⟨a,w',h⟩:=h; exact ⟨_,w',h⟩
theorem nxP_spec {P:Program} {s:Sem Value} {w:World} {K:Value→World→Prop} (h:nxP P s w K):∃v w',s.run P w=.ok v w'∧K v w':=by
 obtain ⟨b,vs,w',h⟩:=h; exact ⟨_,w',h⟩
theorem enP_spec {P:Program} {s:Sem Value} {w:World} {K:Value→World→Prop} (h:enP P s w K):∃v w',s.run P w=.ok v w'∧K v w':=by
 obtain ⟨x,y,w',h⟩:=h; exact ⟨_,w',h⟩
theorem elemOfT_spec {P:Program} {t e:TypeId} {n:Nat} (h:elemOfT P t=some (e,n)):P.underlying t=some (.slice e)∧sizeOfT P e=some n:=by
 unfold elemOfT at h; split at h
 ·rename_i e' he
  split at h
  ·rename_i m hm; simp at h; obtain ⟨rfl,rfl⟩:=h; exact ⟨he,hm⟩
  ·cases h
 ·cases h
theorem arrOfT_spec {P:Program} {t e:TypeId} {m n:Nat} (h:arrOfT P t=some (m,e,n)):P.underlying t=some (.array m e)∧sizeOfT P e=some n:=by
 unfold arrOfT at h; split at h
 ·rename_i m' e' he
  split at h
  ·rename_i m hm; simp at h; obtain ⟨rfl,rfl,rfl⟩:=h; exact ⟨he,hm⟩
  ·cases h
 ·cases h
theorem sl2_spec {P:Program} {isS:Bool} {len cap:Nat} {lo hi:Option Value} {K:Nat→Nat→Prop} (h:sl2 len cap lo hi K) :
  ∃l u,(∀w,(Instr.sliceBounds isS len cap lo hi none).run P w=.ok (l,u,cap) w)∧K l u:=by
 unfold sl2 at h
 split at h
 ·exact ⟨0,len,fun w=>by simp [Instr.sliceBounds],h⟩
 ·rename_i k x
  obtain ⟨h1,h2,h3⟩:=h
  exact ⟨0,x.toNat,fun w=>by simp [Instr.sliceBounds,Instr.sliceBound,asIntOf,h1,h2],h3⟩
 ·rename_i k x
  obtain ⟨h1,h2,h3⟩:=h
  exact ⟨x.toNat,len,fun w=>by simp [Instr.sliceBounds,Instr.sliceBound,asIntOf,h1,h2],h3⟩
 ·rename_i k x k' y
  obtain ⟨h1,h2,h3,h4,h5⟩:=h
  have e:((y.toNat:Nat):Int)=y:=Int.toNat_of_nonneg h1
  have h4':¬max y 0<x:=by omega
  exact ⟨x.toNat,y.toNat,fun w=>by simp [Instr.sliceBounds,Instr.sliceBound,asIntOf,h1,h2,h3,h4'],h5⟩
 ·exact h.elim
theorem sliceP_spec {P:Program} {t:TypeId} {x:Value} {lo hi:Option Value} {K:Value→Prop} (h:sliceP P t x lo hi K) :
  ∃v,(∀w,(Instr.sliceAt t x lo hi none).run P w=.ok v w)∧K v:=by
 unfold sliceP at h
 split at h
 ·split at h
  ·rename_i s ht
   have ht:=isStrT_spec ht
   obtain ⟨l,u,h1,h2⟩:=sl2_spec (P:=P) (isS:=false) h
   exact ⟨_,fun w=>by simp [Instr.sliceAt,run_underlying ht,Instr.slice,h1],h2⟩
  ·exact h.elim
 ·split at h
  ·rename_i a n c e sz ht
   obtain ⟨ht,hs⟩:=elemOfT_spec ht
   obtain ⟨l,u,h1,h2⟩:=sl2_spec (P:=P) (isS:=true) h
   exact ⟨_,fun w=>by simp [Instr.sliceAt,run_underlying ht,Instr.slice,h1,sizeOfT_spec hs,slA],h2⟩
  ·exact h.elim
 ·split at h
  ·rename_i q m e sz ht
   obtain ⟨ht,hs⟩:=arrOfT_spec ht
   obtain ⟨a,rfl,h'⟩:=nn_spec h
   obtain ⟨l,u,h1,h2⟩:=sl2_spec (P:=P) (isS:=false) h'
   refine ⟨_,fun w=>?_,h2⟩
   simp only [Instr.sliceAt,run_underlying ht,Instr.sureAddr,h1,sizeOfT_spec hs,slA,Sem.run_bind,Result.andThen_ok,Sem.run_pure]
   split<;>rfl
  ·exact h.elim
 ·exact h.elim
theorem slice3P_spec {P:Program} {t:TypeId} {x:Value} {lo hi:Option Value} {mx:Value} {K:Value→Prop} (h:slice3P P t x lo hi mx K) :
  ∃v,(∀w,(Instr.sliceAt t x lo hi (some mx)).run P w=.ok v w)∧K v:=by
 unfold slice3P at h
 split at h
 ·split at h
  ·rename_i a n c e sz ht
   obtain ⟨ht,hs⟩:=elemOfT_spec ht
   unfold sl3 at h
   split at h
   ·rename_i k y k' z
    obtain ⟨h1,h2,h3,h4,h5⟩:=h
    have e1:((z.toNat:Nat):Int)=z:=Int.toNat_of_nonneg h1
    have h4':y≤max z 0:=by omega
    exact ⟨_,fun w=>by simp [Instr.sliceAt,run_underlying ht,Instr.slice,Instr.sliceBounds,Instr.sliceBound,asIntOf,h1,h2,h3,h4,h4',sizeOfT_spec hs,slA],h5⟩
   ·rename_i k x k' y k2 z
    obtain ⟨h1,h2,h3,h4,h5,h6,h7⟩:=h
    have h4':y≤max z 0:=by omega
    have h6':x≤max y 0:=by omega
    exact ⟨_,fun w=>by simp [Instr.sliceAt,run_underlying ht,Instr.slice,Instr.sliceBounds,Instr.sliceBound,asIntOf,h1,h2,h3,h4,h4',h5,h6,h6',sizeOfT_spec hs,slA],h7⟩
   ·exact h.elim
  ·exact h.elim
 ·exact h.elim
theorem indexAddrP_spec {P:Program} {t:TypeId} {x i:Value} {K:Value→Prop} (h:indexAddrP P t x i K) :
  ∃v,(∀w,(Instr.indexAt t x i).run P w=.ok v w)∧K v:=by
 unfold indexAddrP at h
 split at h
 ·split at h
  ·split at h
   ·rename_i k i a n c e sz ht
    obtain ⟨ht,hs⟩:=elemOfT_spec ht
    obtain ⟨h1,h2,h3⟩:=h
    obtain ⟨a,rfl,h3⟩:=nn_spec h3
    exact ⟨_,fun w=>by simp [Instr.indexAt,asIntOf,run_underlying ht,h1,h2,sizeOfT_spec hs],h3⟩
   ·exact h.elim
  ·split at h
   ·rename_i k i q m e sz ht
    obtain ⟨ht,hs⟩:=arrOfT_spec ht
    obtain ⟨h1,h2,h3⟩:=h
    obtain ⟨a,rfl,h3⟩:=nn_spec h3
    exact ⟨_,fun w=>by simp [Instr.indexAt,asIntOf,run_underlying ht,Instr.sureAddr,h1,h2,sizeOfT_spec hs],h3⟩
   ·exact h.elim
  ·exact h.elim
 ·exact h.elim
theorem kdOf_one {P:Program} {t:TypeId} {l:Leaf} (h:kdOf P t=some (.one l)):isAggB P t=some false:=by
 unfold kdOf at h; split at h<;>simp_all
theorem indexP_spec {P:Program} {t:TypeId} {x i:Value} {K:Value→Prop} (h:indexP P t x i K) :
  ∃v,(∀w,(Instr.index t x i).run P w=.ok v w)∧K v:=by
 unfold indexP at h
 cases i<;>try exact h.elim
 case int k i=>
  cases x<;>try exact h.elim
  case string s=>
   simp only [] at h
   cases ht:isStrT P t with
   | false=>rw [ht] at h; exact h.elim
   | true=>
    rw [ht] at h
    have ht:=isStrT_spec ht
    obtain ⟨h1,h2,h3⟩:=h
    have hlt:i.toNat<s.size:=by omega
    refine ⟨_,fun w=>?_,h3⟩
    simp [Instr.index,asIntOf,run_underlying ht,h1,byteAt,hlt]
  case agg cs=>
   simp only [] at h
   cases ht:arrOfT P t with
   | none=>rw [ht] at h; exact h.elim
   | some q=>
    obtain ⟨m,e,sz⟩:=q
    rw [ht] at h
    obtain ⟨ht',hs⟩:=arrOfT_spec ht
    simp only [] at h
    split at h
    ·rename_i l hk hb
     obtain ⟨h1,h2,h3⟩:=h
     obtain ⟨v,hv,hK⟩:=exL_spec h3
     have hsz:=Nat.eq_of_beq_eq_true hb
     subst hsz
     have hv':cs[i.toNat]?=some v:=by simpa using hv
     refine ⟨v,fun w=>?_,hK⟩
     simp [Instr.index,asIntOf,run_underlying ht',h1,h2,sizeOfT_spec hs,part,run_isAgg (kdOf_one hk),hv']
    ·exact h.elim
theorem binP_spec {P:Program} {op:BinOp} {t:TypeId} {x y:Operand} {vx vy:Value} {K:Value→Prop} (h:binP op vx vy K) :
  ∃v,(∀w,(do eqGuard op t x y vx vy; binOp op t vx vy:Sem Value).run P w=.ok v w)∧K v:=by
 unfold binP at h
 split at h
 ·rename_i k a k' b
  simp only [eqGuard_at_int,Sem.run_bind,Sem.run_pure,Result.andThen_ok]
  split at h
  ·split at h
   ·rename_i hk; subst hk; obtain ⟨h1,h2⟩:=h
    exact ⟨_,fun w=>by simp [binOp,Op.intDiv,h1],h2⟩
   ·exact h.elim
  ·split at h
   ·rename_i hk; subst hk; obtain ⟨h1,h2⟩:=h
    exact ⟨_,fun w=>by simp [binOp,Op.intDiv,h1],h2⟩
   ·exact h.elim
  ·obtain ⟨h1,h2⟩:=h
   have hn:¬b<0:=by omega
   exact ⟨_,fun w=>by simp [binOp,Op.shift,hn],h2⟩
  ·obtain ⟨h1,h2⟩:=h
   have hn:¬b<0:=by omega
   exact ⟨_,fun w=>by simp [binOp,Op.shift,hn],h2⟩
  ·exact h.elim
 ·rename_i k a k' b
  simp only [eqGuard_at_float,Sem.run_bind,Sem.run_pure,Result.andThen_ok]
  split at h
  ·rename_i hk; subst hk
   split at h<;>first | exact h.elim | (obtain ⟨r,h1,h2⟩:=h; exact ⟨_,fun w=>by simp [binOp,Op.floatArith,h1],h2⟩)
  ·exact h.elim
 ·exact h.elim
theorem binQ_spec {P:Program} {op:BinOp} {t:TypeId} {x y:Operand} {vx vy:Value} {K:Value→Prop} {a:Act} (hy:a.eval y=vy) (h:binQ P op t y vx vy K) :
  ∃v,(∀w,(do eqGuard op t x y vx vy; binOp op t vx vy:Sem Value).run P w=.ok v w)∧K v:=by
 unfold binQ at h
 split at h
 ·rename_i hb
  simp only [Bool.and_eq_true] at hb
  have hyn:y=.const .nilFunc:=by
   have:=hb.1; unfold litNilF at this; split at this
   ·rfl
   ·cases this
  have hu:∃p q r,P.underlying t=some (.func p q r):=by
   have:=hb.2; unfold isFuncT at this; split at this
   ·rename_i p q r he; exact ⟨p,q,r,he⟩
   ·cases this
  obtain ⟨p,q,r,hu⟩:=hu
  subst hyn
  simp only [Act.eval] at hy
  subst hy
  have key:∀b,isFn vx=true→(isNilF vx=b)→∀w,(Op.equal t vx .nilFunc).run P w=.ok b w:=by
   intro b hf hb w
   have k2:∀d,(Op.equalIn (d+1) t vx .nilFunc).run P w=.ok b w:=by
    intro d
    cases vx<;>simp only [isFn] at hf<;>first | cases hf | skip
    ·simp only [isNilF] at hb; subst hb; simp [Op.equalIn,run_underlying hu]
    ·simp only [isNilF] at hb; subst hb; simp [Op.equalIn,run_underlying hu]
   exact k2 9999
  split at h
  ·obtain ⟨hf,hK⟩:=h
   refine ⟨_,fun w=>?_,hK⟩
   have hg:eqGuard .eql t x (.const .nilFunc) vx .nilFunc=pure ():=by cases vx<;>first | rfl | (simp [isFn] at hf)
   have hbo:binOp .eql t vx .nilFunc=(do pure (.bool (←Op.equal t vx .nilFunc)):Sem Value):=by cases vx<;>first | rfl | (simp [isFn] at hf)
   rw [hg,hbo]
   simp [key _ hf rfl w]
  ·obtain ⟨hf,hK⟩:=h
   refine ⟨_,fun w=>?_,hK⟩
   have hg:eqGuard .neq t x (.const .nilFunc) vx .nilFunc=pure ():=by cases vx<;>first | rfl | (simp [isFn] at hf)
   have hbo:binOp .neq t vx .nilFunc=(do pure (.bool (!(←Op.equal t vx .nilFunc))):Sem Value):=by cases vx<;>first | rfl | (simp [isFn] at hf)
   rw [hg,hbo]
   simp [key _ hf rfl w]
  ·exact h.elim
 ·split at h
  ·obtain ⟨b,h1,h2⟩:=h
   exact ⟨_,fun w=>h1 w x y,h2⟩
  ·exact binP_spec h
def Upn (P:Program) (K:Value→World→Prop):Result Next→Prop
 | .ok (.value v) w'=>K v w'
 | .ok .skip w'=>K undef w'
 | .ok (.enter f args) w'=>Calls P f args w' fun e w''=>∃v,e=.returned v∧K v w''
 | _=>False
theorem upn_val {P:Program} {r:Result Next} {w':World} {v:Value} {K:Value→World→Prop} (hr:r=.ok (.value v) w') (h:K v w'):Upn P K r:=by rw [hr]; exact h
theorem upn_skip {P:Program} {r:Result Next} {w':World} {K:Value→World→Prop} (hr:r=.ok .skip w') (h:K undef w'):Upn P K r:=by rw [hr]; exact h
theorem upn_cl {P:Program} {r:Result Next} {w:World} {k:FuncId} {args:List Value} {K:Value→World→Prop} {q:RK}
  (hr:r=(callFunc k args.toArray).run P w) (h:cl P k args w fun e w'=>exR q fun v=>e=.returned v∧K v w'):Upn P K r:=by
 rw [hr,run_callFunc_enter h.1]
 show Calls _ _ _ _ _
 refine h.2.mono fun e w' he=>?_
 obtain ⟨v,he,hK⟩:=exR_spec he
 exact ⟨v,he,hK⟩
theorem upn_wp {P:Program} {o:Oper} {a:Act} {w:World} {K:Value→World→Prop} {next:Act→World→Prop} {Q:Exit→Act→World→Prop}
  (h:Upn P K ((execOp a.eval o).run P w)) (hn:∀v w',K v w'→next (a.put o.dst v) w'):o.wp P a w next Q:=by
 unfold Oper.wp
 generalize (execOp a.eval o).run P w=r at h
 cases r with
 | ok x w'=>
  cases x<;>simp only [Upn] at h<;>try exact h.elim
  ·exact hn _ _ h
  ·exact hn _ _ h
  ·show Calls _ _ _ _ _
   refine h.mono fun e w'' he=>?_
   obtain ⟨v,rfl,hK⟩:=he
   exact hn _ _ hK
 | halt x w'=>exact h.elim
theorem Upn.mono {P:Program} {K K':Value→World→Prop} {r:Result Next} (h:Upn P K r) (hk:∀v w,K v w→K' v w):Upn P K' r:=by
 cases r with
 | ok x w'=>
  cases x<;>simp only [Upn] at h ⊢<;>try exact h.elim
  ·exact hk _ _ h
  ·exact hk _ _ h
  ·exact h.mono fun e w'' he=>by obtain ⟨v,he,hK⟩:=he; exact ⟨v,he,hk _ _ hK⟩
 | halt x w'=>exact h.elim
theorem evPrim_run {P:Program} {o:Oper} {E:Env} {p:Path} {w:World} {K:Value→World→Prop} {a:Act}
  (hs:Sim E a) (hp:On a p) (h:evPrim P o E p w K):Upn P K ((execOp a.eval o).run P w):=by
 obtain ⟨dst,op,type,pos,after,guard⟩:=o
 unfold evPrim at h
 cases op<;>simp only [] at h<;>try (exact h.elim)
 case load t x=>
  obtain ⟨ad,hx,h⟩:=adr_spec h
  obtain ⟨v,h1,h2⟩:=loadT_spec h
  exact upn_val (by simp [execOp,opd_spec hs hp hx,Instr.loadAt,Instr.sureAddr,h1]) h2
 case store t x y=>
  obtain ⟨ad,hx,h⟩:=adr_spec h
  split at h
  ·rename_i v hy
   obtain ⟨w',h1,h2⟩:=storeT_spec h
   exact upn_skip (by simp [execOp,opd_spec hs hp hx,opd_spec hs hp hy,Instr.storeAt,Instr.sureAddr,h1]) h2
  ·exact h.elim
 case alloc t=>
  split at h
  ·rename_i z hz
   refine upn_val (w':=w.alloc (.cells z.cells t)) (v:=.pointer (some ⟨w.heap.size,0,none⟩)) ?_ ?_
   ·simp [execOp,Instr.alloc,zeroT_spec hz,newVar,newRow]
   ·have:(cellsL z).toArray=z.cells:=by simp [cellsL_eq]
    unfold alc at h; rw [this] at h; exact h
  ·exact h.elim
 case box t x=>
  split at h
  ·rename_i v hx
   refine upn_val (w':=w.alloc (.cells v.cells t)) (v:=.pointer (some ⟨w.heap.size,0,none⟩)) ?_ ?_
   ·simp [execOp,Instr.box,opd_spec hs hp hx,newVar,newRow]
   ·split at h
    ·have:=cells_one h.1
     rw [this]; exact h.2
    ·have:(cellsL v).toArray=v.cells:=by simp [cellsL_eq]
     unfold alc at h; rw [this] at h; exact h
  ·exact h.elim
 case buildSlice t n parts=>
  split at h
  ·rename_i e sz vs he hv
   obtain ⟨ht,hsz⟩:=elemOfT_spec he
   split at h
   ·rename_i z hz hb
    split at h
    ·rename_i cs hcs
     have h1:=partsL_spec hs hp hv
     have e1:(parts.map fun (i,x)=>(i,a.eval x))=vs.toArray:=by apply Array.ext'; simpa using h1
     have hle:=Nat.le_of_ble_eq_true hb
     have hnl:¬2 ^ 24<n*sz:=by omega
     have hf:=fillL_spec hcs
     refine upn_val (w':=w.alloc (.cells cs.toArray e)) (v:=.slice (some ⟨w.heap.size,0,none⟩) n n) ?_ h
     have hz':(cellsL z).toArray=z.cells:=by simp [cellsL_eq]
     have hcells:((List.range (n*sz)).map fun i=>(cellsL z)[i%(cellsL z).length]!).toArray=(Array.range (n*sz)).map (fun i=>z.cells[i%z.cells.size]!):=by
      apply Array.ext'
      simp [←hz',Array.toList_range]
     rw [hcells] at hf
     by_cases h0:n*sz=0
     ·simp only [execOp,e1,Instr.buildSlice,Sem.run_bind,run_underlying ht,Result.andThen_ok,sizeOfT_spec hsz]
      have hf':Instr.fill (fun i=>some (i*sz,sz)) #[] vs=some cs.toArray:=by
       rw [h0] at hf; simpa [Array.range_zero'] using hf
      simp [h0,hf',newRow,Array.range_zero']
     ·simp only [execOp,e1,Instr.buildSlice,Sem.run_bind,run_underlying ht,Result.andThen_ok,sizeOfT_spec hsz]
      simp [hnl,h0,zeroT_spec hz,hf,newRow]
    ·exact h.elim
   ·exact h.elim
  ·exact h.elim
 case nilCheck x=>
  split at h
  ·split at h
   ·rename_i v hx
    obtain ⟨h1,h2⟩:=h
    refine upn_val (v:=v) (w':=w) ?_ h2
    unfold nkA at h1
    split at h1
    ·simp [execOp,opd_spec hs hp hx]
    ·simp [execOp,opd_spec hs hp hx]
    ·cases h1
   ·exact h.elim
  ·obtain ⟨ad,hx,h⟩:=adr_spec h
   exact upn_val (by simp [execOp,opd_spec hs hp hx]) h
 case binOp op t x y yt=>
  split at h
  ·rename_i vx vy hx hy
   obtain ⟨v,h1,h2⟩:=binQ_spec (P:=P) (t:=t) (x:=x) (y:=y) (opd_spec hs hp hy) h
   refine upn_val (v:=v) (w':=w) ?_ h2
   simp only [execOp,opd_spec hs hp hx,opd_spec hs hp hy]
   rw [Sem.run_bind,h1 w]; rfl
  ·exact h.elim
 case indexAddr t x i=>
  split at h
  ·rename_i vx vi hx hi
   obtain ⟨v,h1,h2⟩:=indexAddrP_spec h
   exact upn_val (by simp [execOp,opd_spec hs hp hx,opd_spec hs hp hi,h1]) h2
  ·exact h.elim
 case index t x i=>
  split at h
  ·rename_i vx vi hx hi
   obtain ⟨v,h1,h2⟩:=indexP_spec h
   exact upn_val (by simp [execOp,opd_spec hs hp hx,opd_spec hs hp hi,h1]) h2
  ·exact h.elim
 case slice t x lo hi mx=>
  have oo:∀{q:Option Operand} {l:Option Value},opdO E p q=some l→q.map a.eval=l:=fun {q} {l} hl=>by
   unfold opdO at hl; split at hl
   ·simp at hl; subst hl; rfl
   ·split at hl
    ·rename_i y v hv; simp at hl; subst hl; simp [opd_spec hs hp hv]
    ·cases hl
  split at h
  ·split at h
   ·rename_i vx l u hx hl hu
    obtain ⟨v,h1,h2⟩:=sliceP_spec h
    exact upn_val (by simp [execOp,opd_spec hs hp hx,oo hl,oo hu,h1]) h2
   ·exact h.elim
  ·split at h
   ·rename_i vx l u vm hx hl hu hm
    obtain ⟨v,h1,h2⟩:=slice3P_spec h
    exact upn_val (by simp [execOp,opd_spec hs hp hx,oo hl,oo hu,opd_spec hs hp hm,h1]) h2
   ·exact h.elim
 case makeSlice t l c=>
  split at h
  ·rename_i vl vc hl hc
   obtain ⟨v,w',h1,h2⟩:=rnR_spec h
   exact upn_val (by simp [execOp,opd_spec hs hp hl,opd_spec hs hp hc,h1]) h2
  ·exact h.elim
 case makeMap t r=>
  split at h
  ·obtain ⟨v,w',h1,h2⟩:=rnR_spec h
   exact upn_val (by simp [execOp,h1]) h2
  ·exact h.elim
 case lookup t m k ok=>
  split at h
  ·rename_i vm vk hm hk
   obtain ⟨v,w',h1,h2⟩:=rnR_spec h
   exact upn_val (by simp [execOp,opd_spec hs hp hm,opd_spec hs hp hk,h1]) h2
  ·exact h.elim
 case mapUpdate t m k x=>
  split at h
  ·rename_i vm vk vx hm hk hx
   obtain ⟨w',h1,h2⟩:=h
   exact upn_skip (by simp [execOp,opd_spec hs hp hm,opd_spec hs hp hk,opd_spec hs hp hx,h1]) h2
  ·exact h.elim
 case mapEntry t m k=>
  split at h
  ·rename_i vm vk hm hk
   obtain ⟨v,w',h1,h2⟩:=enP_spec h
   exact upn_val (by simp [execOp,opd_spec hs hp hm,opd_spec hs hp hk,h1]) h2
  ·exact h.elim
 case entryStore t m k x=>
  split at h
  ·rename_i vm vk vx hm hk hx
   obtain ⟨w',h1,h2⟩:=h
   exact upn_skip (by simp [execOp,opd_spec hs hp hm,opd_spec hs hp hk,opd_spec hs hp hx,h1]) h2
  ·exact h.elim
 case entry x=>
  split at h
  ·rename_i vx hx
   obtain ⟨v,w',h1,h2⟩:=enP_spec h
   exact upn_val (by simp [execOp,opd_spec hs hp hx,h1]) h2
  ·exact h.elim
 case range t x=>
  split at h
  ·rename_i vx hx
   obtain ⟨v,w',h1,h2⟩:=rnA_spec h
   exact upn_val (by simp [execOp,opd_spec hs hp hx,h1]) h2
  ·exact h.elim
 case next x s=>
  split at h
  ·rename_i vx hx
   obtain ⟨v,w',h1,h2⟩:=nxP_spec h
   exact upn_val (by simp [execOp,opd_spec hs hp hx,h1]) h2
  ·exact h.elim
 case call c=>
  split at h
  ·rename_i f hf
   split at h
   ·rename_i k vs r hvs hr
    have h1:=opds_spec hs hp hvs
    have e1:c.args.map a.eval=vs.toArray:=by apply Array.ext'; simpa using h1
    refine upn_cl (k:=k) (args:=vs) (q:=r) ?_ h
    simp [execOp,resolve,hf,e1,Act.eval,Deferred.ofValue,invoke]
   ·rename_i t vs r hvs hr
    have h1:=opds_spec hs hp hvs
    have e1:c.args.map a.eval=vs.toArray:=by apply Array.ext'; simpa using h1
    split at h
    ·rename_i fv hfv
     obtain ⟨k,first,cap,rfl,h⟩:=h
     refine upn_cl (k:=k) (q:=r) ?_ h
     simp [execOp,resolve,hf,e1,opd_spec hs hp hfv,Deferred.ofValue,invoke]
     congr 1
     apply congrArg
     apply Array.ext'
     simp
    ·exact h.elim
   ·exact h.elim
  ·rename_i x name hf
   split at h
   ·rename_i rv vs r hrv hvs hr
    have h1:=opds_spec hs hp hvs
    have e1:c.args.map a.eval=vs.toArray:=by apply Array.ext'; simpa using h1
    obtain ⟨t,v,k,rcv,rfl,hm,h⟩:=h
    refine upn_cl (k:=k) (args:=rcv :: vs) (q:=r) ?_ h
    have e2:(#[rcv]++vs.toArray)=(rcv :: vs).toArray:=by apply Array.ext'; simp
    simp [execOp,resolve,hf,e1,opd_spec hs hp hrv,invoke,callMethod,hm]
   ·exact h.elim
  ·rename_i b hb
   split at h
   ·rename_i vs hvs
    have h1:=opds_spec hs hp hvs
    have e1:c.args.map a.eval=vs.toArray:=by apply Array.ext'; simpa using h1
    split at h
    ·rename_i s hsem
     obtain ⟨v,w',hr,hK⟩:=rnR_spec h
     refine upn_val (v:=v) (w':=w') ?_ hK
     unfold bSem at hsem
     split at hsem<;>first | (simp only [Option.some.injEq] at hsem; subst hsem; simp [execOp,resolve,hb,e1,invoke,builtin,hr]; done) | cases hsem
    ·exact h.elim
   ·exact h.elim
theorem evPrim_spec {P:Program} {o:Oper} {E:Env} {p:Path} {w:World} {K:Value→World→Prop} {a:Act} {Q:Exit→Act→World→Prop}
  (hs:Sim E a) (hp:On a p) (h:evPrim P o E p w K):o.wp P a w (fun a' w'=>∃v,a'=a.put o.dst v∧K v w') Q:=
 upn_wp (evPrim_run hs hp h) fun v w' hK=>⟨v,rfl,hK⟩
theorem evStill {P:Program} {o:Oper} {E:Env} {p:Path} {w:World} {K:Value→World→Prop} {a:Act} (hs:Sim E a) (hp:On a p)
  (hld:(match o.op with | .nilCheck _ | .binOp .. | .indexAddr .. | .index .. | .slice ..=>true | _=>false)=true) (h:evPrim P o E p w K) :
  ∃v,(∀w',(execOp a.eval o).run P w'=.ok (.value v) w')∧K v w:=by
 obtain ⟨dst,op,type,pos,after,guard⟩:=o
 unfold evPrim at h
 cases op<;>simp only [] at h hld<;>try (exact absurd hld (by decide))
 case nilCheck x=>
  split at h
  ·split at h
   ·rename_i v hx
    obtain ⟨h1,h2⟩:=h
    refine ⟨v,fun w'=>?_,h2⟩
    unfold nkA at h1
    split at h1
    ·simp [execOp,opd_spec hs hp hx]
    ·simp [execOp,opd_spec hs hp hx]
    ·cases h1
   ·exact h.elim
  ·obtain ⟨ad,hx,h⟩:=adr_spec h
   exact ⟨_,fun w'=>by simp [execOp,opd_spec hs hp hx],h⟩
 case binOp op t x y yt=>
  split at h
  ·rename_i vx vy hx hy
   obtain ⟨v,h1,h2⟩:=binQ_spec (P:=P) (t:=t) (x:=x) (y:=y) (opd_spec hs hp hy) h
   refine ⟨v,fun w'=>?_,h2⟩
   simp only [execOp,opd_spec hs hp hx,opd_spec hs hp hy]
   rw [Sem.run_bind,h1 w']; rfl
  ·exact h.elim
 case indexAddr t x i=>
  split at h
  ·rename_i vx vi hx hi
   obtain ⟨v,h1,h2⟩:=indexAddrP_spec h
   exact ⟨v,fun w'=>by simp [execOp,opd_spec hs hp hx,opd_spec hs hp hi,h1],h2⟩
  ·exact h.elim
 case index t x i=>
  split at h
  ·rename_i vx vi hx hi
   obtain ⟨v,h1,h2⟩:=indexP_spec h
   exact ⟨v,fun w'=>by simp [execOp,opd_spec hs hp hx,opd_spec hs hp hi,h1],h2⟩
  ·exact h.elim
 case slice t x lo hi mx=>
  have oo:∀{q:Option Operand} {l:Option Value},opdO E p q=some l→q.map a.eval=l:=fun {q} {l} hl=>by
   unfold opdO at hl; split at hl
   ·simp at hl; subst hl; rfl
   ·split at hl
    ·rename_i y v hv; simp at hl; subst hl; simp [opd_spec hs hp hv]
    ·cases hl
  split at h
  ·split at h
   ·rename_i vx l u hx hl hu
    obtain ⟨v,h1,h2⟩:=sliceP_spec h
    exact ⟨v,fun w'=>by simp [execOp,opd_spec hs hp hx,oo hl,oo hu,h1],h2⟩
   ·exact h.elim
  ·split at h
   ·rename_i vx l u vm hx hl hu hm
    obtain ⟨v,h1,h2⟩:=slice3P_spec h
    exact ⟨v,fun w'=>by simp [execOp,opd_spec hs hp hx,oo hl,oo hu,opd_spec hs hp hm,h1],h2⟩
   ·exact h.elim
theorem evLoad {P:Program} {o:Oper} {E:Env} {p:Path} {w:World} {K:Value→World→Prop} {a:Act} (hs:Sim E a) (hp:On a p)
  (hld:(match o.op with | .load ..=>true | _=>false)=true) (h:evPrim P o E p w K) :
  ∃v,(execOp a.eval o).run P w=.ok (.value v) w∧K v w:=by
 obtain ⟨dst,op,type,pos,after,guard⟩:=o
 unfold evPrim at h
 cases op<;>simp only [] at h hld<;>try (exact absurd hld (by decide))
 case load t x=>
  obtain ⟨ad,hx,h⟩:=adr_spec h
  obtain ⟨v,h1,h2⟩:=loadT_spec h
  exact ⟨v,by simp [execOp,opd_spec hs hp hx,Instr.loadAt,Instr.sureAddr,h1],h2⟩
end Go.Proofs.YtmhjehodfggleaaGreat.Vc

/- The verification-condition generator, sixth part: a region's operations, one behind the other. -/

set_option linter.unusedVariables false
set_option linter.unusedSimpArgs false
namespace Go.Proofs.YtmhjehodfggleaaGreat.Vc
open Go
def slotOf (ops:Array Oper) (j:Nat):Option Nat:=match ops[j]? with | some o=>o.dst | none=>none
def dstOk (n:Nat) (le:Env) (d:Option Nat):Bool:=
 match d with
 | none=>true
 | some d=>Nat.blt d n&&!(le.any fun x=>Nat.beq x.slot d)
def put1 (d:Option Nat) (p:Path) (v:Value) (le:Env):Env:=match d with | none=>le | some d=>⟨d,p,v⟩ :: le
def strong (le:Env):Env:=le.filter fun x=>x.path.isEmpty
def wkOk (le e:Env):Bool:=le.all fun x=>x.path.isEmpty || (match look e x.slot with | none=>true | some _=>false)
def dflL:(l:Leaf)→LTy l
 | .int _=>(0:Int)
 | .bool=>false
 | .flt _=>(0:Nat)
 | .str=>ByteArray.empty
 | .ptr=>none
 | .slc=>(none,0,0)
 | .mp=>none
 | .any=>undef
def dflLs:(ls:List Leaf)→TupL ls
 | []=>()
 | l :: ls=>(dflL l,dflLs ls)
def dfl:(k:Kd)→KTy k
 | .one l=>dflL l
 | .agg ls=>dflLs ls
 | .unit=>()
 | .adr=>⟨0,0,none⟩
def gkd (P:Program) (o:Oper):Option Kd:=
 match o.op with
 | .indexAddr ..=>some .adr
 | .nilCheck _=>some .adr
 | .store ..=>some .unit
 | .mapUpdate ..=>some .unit
 | _=>match rkOf P o.type with
  | some (.one k)=>some k
  | _=>none
def evReg (P:Program) (n:Nat) (ops:Array Oper):List Oper→Env→Env→World→(Env→World→Prop)→Prop
 | [],le,e,w,K=>match wkOk le e with | true=>K (strong le++e) w | false=>False
 | o :: rest,le,e,w,K=>
  match dstOk n le o.dst with
  | false=>False
  | true=>match o.guard with
   | none=>match evPure P o.op (le++e) [] with
    | some v=>evReg P n ops rest (put1 o.dst [] v le) e w K
    | none=>evPrim P o (le++e) [] w fun v w'=>evReg P n ops rest (put1 o.dst [] v le) e w' K
   | some (j,want)=>match slotOf ops j with
    | none=>False
    | some s=>match look le s with
     | none=>False
     | some en=>match evPure P o.op (le++e) ((s,want) :: en.path) with
      | some v=>evReg P n ops rest (put1 o.dst ((s,want) :: en.path) v le) e w K
      | none=>match pathB (le++e) ((s,want) :: en.path),gkd P o with
       | some c,some kd=>gd c (fun k=>evPrim P o (le++e) ((s,want) :: en.path) w fun v w'=>unk kd v fun x=>k x w') (dfl kd) w
         (fun x w'=>evReg P n ops rest (put1 o.dst ((s,want) :: en.path) (kval kd x) le) e w' K)
       | _,_=>False
structure Loc (le e:Env):Prop where
 wk:∀x∈le,∀y∈x.path,∃z∈le,z.slot=y.1
 st:∀x∈e,x.path=[]
 di:∀x∈le,∀y∈le,x.slot=y.slot→x=y
theorem dstOk_spec {n:Nat} {le:Env} {d:Nat} (h:dstOk n le (some d)=true):d<n∧∀x∈le,x.slot≠d:=by
 simp only [dstOk,Bool.and_eq_true,Bool.not_eq_true'] at h
 refine ⟨Nat.le_of_ble_eq_true h.1,fun x hx e=>?_⟩
 have:=List.any_eq_false.1 h.2 x hx
 rw [e] at this
 exact this (Nat.beq_refl d)
theorem look_append_left:∀{le e:Env} {t:Nat} {en:Ent},look le t=some en→look (le++e) t=some en
 | x :: r,e,t,en,h=>by
  simp only [List.cons_append,look] at h ⊢
  cases hb:Nat.beq x.slot t with
  | true=>rw [hb] at h; exact h
  | false=>rw [hb] at h; exact look_append_left h
theorem put_ne {a:Act} {d t:Nat} {v:Value} (h:d≠t):(a.put (some d) v).tmps[t]?=a.tmps[t]?:=by
 simp [Act.put,Array.getElem?_setIfInBounds_ne h]
theorem put_self {a:Act} {d:Nat} {v:Value} (h:d<a.tmps.size):(a.put (some d) v).tmps[d]?=some v:=by
 simp [Act.put,h]
theorem put_size (a:Act) (d:Option Nat) (v:Value):(a.put d v).tmps.size=a.tmps.size:=by cases d<;>simp [Act.put]
theorem put_defers (a:Act) (d:Option Nat) (v:Value):(a.put d v).defers=a.defers:=by cases d<;>rfl
theorem on_put {a:Act} {d:Nat} {v:Value} {p:Path} (h:∀y∈p,y.1≠d):On (a.put (some d) v) p↔On a p:=by
 constructor
 ·intro ho x hx; have:=ho x hx; rwa [put_ne (Ne.symm (h x hx))] at this
 ·intro ho x hx; have:=ho x hx; rwa [put_ne (Ne.symm (h x hx))]
theorem Sim.put1 {n:Nat} {le e:Env} {a:Act} {d:Option Nat} {p:Path} {v v':Value} (hl:Loc le e) (hs:Sim (le++e) a) (hn:a.tmps.size=n) (hd:dstOk n le d=true)
  (hp:∀y∈p,∃z∈le,z.slot=y.1) (h1:On a p→v'=v) (h2:¬On a p→v'=undef):Sim (put1 d p v le++e) (a.put d v')∧Loc (put1 d p v le) e:=by
 cases d with
 | none=>exact ⟨hs,hl⟩
 | some d=>
  obtain ⟨hdn,hdl⟩:=dstOk_spec hd
  refine ⟨fun t en hlk=>?_,⟨fun x hx y hy=>?_,hl.st,fun x hx y hy hxy=>?_⟩⟩
  ·simp only [Vc.put1,List.cons_append,look] at hlk
   cases hb:Nat.beq d t with
   | true=>
    have hdt:=Nat.eq_of_beq_eq_true hb
    subst hdt
    rw [hb] at hlk; simp only [cond_true,Option.some.injEq] at hlk; subst hlk
    have hpn:∀y∈p,y.1≠d:=fun y hy=>by obtain ⟨z,hz,hzs⟩:=hp y hy; rw [←hzs]; exact hdl z hz
    exact ⟨fun ho=>by rw [put_self (by omega),h1 ((on_put hpn).1 ho)],fun ho=>by rw [put_self (by omega),h2 (fun h=>ho ((on_put hpn).2 h))]⟩
   | false=>
    rw [hb] at hlk; simp only [cond_false] at hlk
    have hne:d≠t:=fun h=>by subst h; simp at hb
    have hslot:=look_slot hlk
    have hok:=hs t en hlk
    have hpn:∀y∈en.path,y.1≠d:=fun y hy=>by
     rcases List.mem_append.1 (look_mem hlk) with hm | hm
     ·obtain ⟨z,hz,hzs⟩:=hl.wk en hm y hy; rw [←hzs]; exact hdl z hz
     ·rw [hl.st en hm] at hy; cases hy
    exact ⟨fun ho=>by rw [put_ne (by rw [hslot]; exact hne)]; exact hok.yes ((on_put hpn).1 ho),
     fun ho=>by rw [put_ne (by rw [hslot]; exact hne)]; exact hok.no (fun h=>ho ((on_put hpn).2 h))⟩
  ·rcases List.mem_cons.1 hx with rfl | hx
   ·obtain ⟨z,hz,hzs⟩:=hp y hy; exact ⟨z,List.mem_cons_of_mem _ hz,hzs⟩
   ·obtain ⟨z,hz,hzs⟩:=hl.wk x hx y hy; exact ⟨z,List.mem_cons_of_mem _ hz,hzs⟩
  ·rcases List.mem_cons.1 hx with rfl | hx'<;>rcases List.mem_cons.1 hy with rfl | hy'
   ·rfl
   ·exact absurd hxy.symm (hdl y hy')
   ·exact absurd hxy (hdl x hx')
   ·exact hl.di x hx' y hy' hxy
theorem look_strong:∀{le e:Env} {t:Nat} {en:Ent},(∀x∈e,x.path=[])→look (strong le++e) t=some en→
  en.path=[]:=by
 intro le e t en he h
 rcases List.mem_append.1 (look_mem h) with hm | hm
 ·have:=(List.mem_filter.1 hm).2; simpa using this
 ·exact he en hm
theorem look_of_strong:∀{le e:Env} {t:Nat} {en:Ent},(∀x∈le,∀y∈le,x.slot=y.slot→x=y)→wkOk le e=true→
  look (strong le++e) t=some en→look (le++e) t=some en
 | [],e,t,en,_,_,h=>h
 | x :: r,e,t,en,hd,hw,h=>by
  have hd':∀x∈r,∀y∈r,x.slot=y.slot→x=y:=fun a ha b hb=>hd a (List.mem_cons_of_mem _ ha) b (List.mem_cons_of_mem _ hb)
  simp only [wkOk,List.all_cons,Bool.and_eq_true] at hw
  have hw':wkOk r e=true:=hw.2
  cases hs:x.path.isEmpty with
  | true=>
   have e1:strong (x :: r)=x :: strong r:=by simp [strong,hs]
   rw [e1] at h
   simp only [List.cons_append,look] at h ⊢
   cases hb:Nat.beq x.slot t with
   | true=>rw [hb] at h; exact h
   | false=>rw [hb] at h; exact look_of_strong hd' hw' h
  | false=>
   have e1:strong (x :: r)=strong r:=by simp [strong,hs]
   rw [e1] at h
   have ih:=look_of_strong hd' hw' h
   simp only [List.cons_append,look]
   cases hb:Nat.beq x.slot t with
   | false=>exact ih
   | true=>
    exfalso
    have hxt:=Nat.eq_of_beq_eq_true hb
    have hsl:=look_slot h
    have hmem:en∈strong r∨en∈e:=List.mem_append.1 (look_mem h)
    by_cases hm:en∈strong r
    ·have hm':=List.mem_filter.1 hm
     have:=hd x List.mem_cons_self en (List.mem_cons_of_mem _ hm'.1) (hxt.trans hsl.symm)
     subst this
     rw [hs] at hm'; simp at hm'
    ·have hn:look (strong r) t=none:=by
      cases hl:look (strong r) t with
      | none=>rfl
      | some en'=>
       have:=look_append_left (e:=e) hl
       rw [h] at this; simp at this; subst this
       exact absurd (look_mem hl) hm
     have he:look e t=some en:=by
      clear ih hm hmem hw hw' hd hd' e1
      revert h hn
      generalize strong r=q
      intro h hn
      induction q with
      | nil=>exact h
      | cons y q ih=>
       simp only [List.cons_append,look] at h hn
       cases hb':Nat.beq y.slot t with
       | true=>rw [hb'] at hn; simp at hn
       | false=>rw [hb'] at h hn; exact ih h hn
     have:=hw.1
     rw [hs,hxt,he] at this
     simp at this
def dsts (l:List Oper) (t:Nat):Prop:=∃o∈l,o.dst=some t
theorem gd_spec {α:Type} {c:Bool} {A:(α→World→Prop)→Prop} {d:α} {w:World} {K:α→World→Prop} (h:gd c A d w K):(c=true→A K)∧(c=false→K d w):=h
theorem wanted_guard {ops:Array Oper} {o:Oper} {j s:Nat} {want:Bool} (hg:o.guard=some (j,want)) (hs:slotOf ops j=some s) (a:Act) :
  Region.wanted o (yielded ops a.tmps)=true↔a.tmps[s]?=some (.bool want):=by
 have hj:(ops[j]?).bind (·.dst)=some s:=by
  unfold slotOf at hs; split at hs
  ·rename_i oj hoj; simp [hoj,hs]
  ·cases hs
 simp only [Region.wanted,hg,yielded,hj,Option.bind_some]
 cases hv:a.tmps[s]? with
 | none=>simp
 | some v=>cases v<;>simp
theorem evReg_spec {P:Program} {n:Nat} {ops:Array Oper} {K:Env→World→Prop} {Q:Exit→Act→World→Prop} : ∀(l:List Oper) (le e:Env) (w:World) (a:Act),
  Loc le e→Sim (le++e) a→a.tmps.size=n→evReg P n ops l le e w K→
  (∀a' w' e',Sim e' a'→(∀x∈e',x.path=[])→a'.tmps.size=n→a'.defers=a.defers→(∀t,¬dsts l t→a'.tmps[t]?=a.tmps[t]?)→K e' w'→Q .normal a' w')→
  wpList P ops Q l a w:=by
 intro l
 induction l with
 | nil=>
  intro le e w a hl hs hn h hQ
  simp only [evReg] at h
  split at h
  ·rename_i hw
   exact hQ a w _ (fun t en hlk=>hs t en (look_of_strong hl.di hw hlk)) (fun x hx=>by
    rcases List.mem_append.1 hx with hx | hx
    ·have:=(List.mem_filter.1 hx).2; simpa using this
    ·exact hl.st x hx) hn rfl (fun t _=>rfl) h
  ·exact h.elim
 | cons o l ih=>
  intro le e w a hl hs hn h hQ
  simp only [evReg] at h
  cases hd:dstOk n le o.dst with
  | false=>rw [hd] at h; exact h.elim
  | true=>
   rw [hd] at h
   simp only [] at h
   -- the rest,behind a value that was put
   have rest:∀(p:Path) (v v':Value) (w':World),(∀y∈p,∃z∈le,z.slot=y.1)→(On a p→v'=v)→(¬On a p→v'=undef)→
     evReg P n ops l (put1 o.dst p v le) e w' K→wpList P ops Q l (a.put o.dst v') w':=by
    intro p v v' w' hp h1 h2 h3
    obtain ⟨hs',hl'⟩:=hs.put1 hl hn hd hp h1 h2
    refine ih _ e w' _ hl' hs' (by rw [put_size]; exact hn) h3 fun a' w'' e' q1 q2 q3 q4 q5 q6=>hQ a' w'' e' q1 q2 q3 (by rw [q4,put_defers]) (fun t ht=>?_) q6
    rw [q5 t (fun ⟨o',ho',hd'⟩=>ht ⟨o',List.mem_cons_of_mem _ ho',hd'⟩)]
    cases hdd:o.dst with
    | none=>rfl
    | some d=>exact put_ne fun hdt=>ht ⟨o,List.mem_cons_self,by rw [hdd,hdt]⟩
   cases hg:o.guard with
   | none=>
    rw [hg] at h
    simp only [] at h
    unfold wpList
    rw [if_pos (by simp [Region.wanted,hg])]
    refine .inl ?_
    cases hv:evPure P o.op (le++e) [] with
    | some v=>
     rw [hv] at h
     unfold Oper.wp
     rw [evPure_spec hs (On.nil a) hv]
     exact rest [] v v w (fun y hy=>by cases hy) (fun _=>rfl) (fun hno=>absurd (On.nil a) hno) h
    | none=>
     rw [hv] at h
     refine Oper.wp_mono (fun a' w' hx=>?_) (evPrim_spec (Q:=Q) hs (On.nil a) h)
     obtain ⟨v,rfl,hK⟩:=hx
     exact rest [] v v w' (fun y hy=>by cases hy) (fun _=>rfl) (fun hno=>absurd (On.nil a) hno) hK
   | some jw=>
    obtain ⟨j,want⟩:=jw
    rw [hg] at h
    simp only [] at h
    cases hso:slotOf ops j with
    | none=>rw [hso] at h; exact h.elim
    | some s=>
     rw [hso] at h
     simp only [] at h
     cases hle:look le s with
     | none=>rw [hle] at h; exact h.elim
     | some en=>
      rw [hle] at h
      simp only [] at h
      have hen:=hs s en (look_append_left hle)
      have hsl:=look_slot hle
      have hp:∀y∈(s,want) :: en.path,∃z∈le,z.slot=y.1:=fun y hy=>by
       rcases List.mem_cons.1 hy with rfl | hy
       ·exact ⟨en,look_mem hle,hsl⟩
       ·exact hl.wk en (look_mem hle) y hy
      have hon:Region.wanted o (yielded ops a.tmps)=true↔On a ((s,want) :: en.path):=by
       rw [wanted_guard hg hso]
       constructor
       ·intro hv
        have hop:On a en.path:=Classical.byContradiction fun hno=>by
         have:=hen.no hno; rw [hsl,hv] at this; simp [undef] at this
        intro y hy
        rcases List.mem_cons.1 hy with rfl | hy
        ·exact hv
        ·exact hop y hy
       ·intro ho; exact ho (s,want) List.mem_cons_self
      unfold wpList
      cases hv:evPure P o.op (le++e) ((s,want) :: en.path) with
      | some v=>
       rw [hv] at h
       by_cases hw:Region.wanted o (yielded ops a.tmps)=true
       ·rw [if_pos hw]
        refine .inl ?_
        unfold Oper.wp
        rw [evPure_spec hs (hon.1 hw) hv]
        exact rest _ v v w hp (fun _=>rfl) (fun hno=>absurd (hon.1 hw) hno) h
       ·rw [if_neg hw]
        exact rest _ v undef w hp (fun hy=>absurd (hon.2 hy) hw) (fun _=>rfl) h
      | none=>
       rw [hv] at h
       simp only [] at h
       split at h
       ·rename_i c kd hc hkd
        have hcp:=pathB_spec hs hc
        by_cases hw:Region.wanted o (yielded ops a.tmps)=true
        ·rw [if_pos hw]
         refine .inl ?_
         have h1:=h.1 (hcp.2 (hon.1 hw))
         refine Oper.wp_mono (fun a' w' hx=>?_) (evPrim_spec (Q:=Q) hs (hon.1 hw) h1)
         obtain ⟨v,rfl,hK⟩:=hx
         obtain ⟨x,rfl,hK'⟩:=unk_spec hK
         exact rest _ _ _ w' hp (fun _=>rfl) (fun hno=>absurd (hon.1 hw) hno) hK'
        ·rw [if_neg hw]
         have hcf:c=false:=by
          cases c with
          | false=>rfl
          | true=>exact absurd (hon.2 (hcp.1 rfl)) hw
         exact rest _ _ undef w hp (fun hy=>absurd (hon.2 hy) hw) (fun _=>rfl) (h.2 hcf)
       ·exact h.elim
end Go.Proofs.YtmhjehodfggleaaGreat.Vc

/- The verification-condition generator, eighth part: regions whose order Go leaves open. -/

set_option linter.unusedVariables false
set_option linter.unusedSimpArgs false
namespace Go.Proofs.YtmhjehodfggleaaGreat.Vc
open Go
def rdB:Op→Bool
 | .move _ | .assign _ | .pick .. | .unOp .. | .binOp .. | .convert .. | .field .. | .extract .. | .makeFunc .. | .makeInterface .. | .fieldAddr .. | .build ..
 | .load .. | .nilCheck _ | .indexAddr .. | .index .. | .slice ..=>true
 | .call c=>match c.callee with
  | .builtin b=>(match b with | .len | .cap | .min | .max=>true | _=>false)
  | _=>false
 | _=>false
def ldB' (o:Op):Bool:=match o with | .load ..=>true | _=>false
def stB (o:Op):Bool:=match o with | .nilCheck _ | .binOp .. | .indexAddr .. | .index .. | .slice ..=>true | _=>false
structure Pd where
 i:Nat
 o:Oper
 E:Env
 p:Path
 c:Option Bool
 v:Value
def chkP (P:Program) (w:World) (d:Pd):Prop:=
 match d.c with
 | none=>evPrim P d.o d.E d.p w fun v' _=>v'=d.v
 | some c=>c=true→evPrim P d.o d.E d.p w fun v' _=>v'=d.v
def hasB (d i:Nat):Bool:=Nat.testBit d i
def addB (d i:Nat):Nat:=d ||| (1 <<< i)
def predM (o:Oper):Nat:=o.after.toList.foldr (fun e acc=>bif Region.binds .any e then addB acc e.on else acc) 0
def subB (x y:Nat):Bool:=Nat.beq (x&&& y) x
def rdyB (d i:Nat) (o:Oper):Bool:=!(hasB d i)&&subB (predM o) d
def firstR (d:Nat):List Oper→Nat→Option (Nat×Oper)
 | [],_=>none
 | o :: r,i=>bif rdB o.op&&rdyB d i o then some (i,o) else firstR d r (i+1)
def readyE (d:Nat):List Oper→Nat→List (Nat×Oper)
 | [],_=>[]
 | o :: r,i=>bif !(rdB o.op)&&rdyB d i o then (i,o) :: readyE d r (i+1) else readyE d r (i+1)
def allE {α:Type} : List α→(α→Prop)→Prop
 | [],_=>True
 | i :: r,f=>match r with | []=>f i | _ :: _=>f i∧allE r f
def chks (P:Program) (w:World) (m:Nat):List Pd→Prop→Prop
 | [],Q=>Q
 | d :: r,Q=>bif hasB m d.i then chks P w m r Q else (chkP P w d∧chks P w m r Q)
def rdStep (P:Program) (n:Nat) (ops:Array Oper) (o:Oper) (i:Nat) (le e:Env) (w:World) (pend:List Pd) (K:Env→List Pd→Prop):Prop:=
 match dstOk n le o.dst with
 | false=>False
 | true=>match o.guard with
  | none=>match evPure P o.op (le++e) [] with
   | some v=>K (put1 o.dst [] v le) pend
   | none=>match ldB' o.op with
    | true=>evPrim P o (le++e) [] w fun v _=>K (put1 o.dst [] v le) (⟨i,o,le++e,[],none,v⟩ :: pend)
    | false=>match stB o.op with
     | true=>evPrim P o (le++e) [] w fun v _=>K (put1 o.dst [] v le) pend
     | false=>False
  | some (j,want)=>match slotOf ops j with
   | none=>False
   | some s=>match look le s with
    | none=>False
    | some en=>match evPure P o.op (le++e) ((s,want) :: en.path) with
     | some v=>K (put1 o.dst ((s,want) :: en.path) v le) pend
     | none=>match pathB (le++e) ((s,want) :: en.path),gkd P o with
      | some c,some kd=>(match ldB' o.op with
       | true=>gd c (fun k=>evPrim P o (le++e) ((s,want) :: en.path) w fun v _=>unk kd v fun x=>k x w) (dfl kd) w
        (fun x _=>K (put1 o.dst ((s,want) :: en.path) (kval kd x) le) (⟨i,o,le++e,(s,want) :: en.path,some c,kval kd x⟩ :: pend))
       | false=>match stB o.op with
        | true=>gd c (fun k=>evPrim P o (le++e) ((s,want) :: en.path) w fun v _=>unk kd v fun x=>k x w) (dfl kd) w
         (fun x _=>K (put1 o.dst ((s,want) :: en.path) (kval kd x) le) pend)
        | false=>False)
      | _,_=>False
def efStep (P:Program) (n:Nat) (ops:Array Oper) (o:Oper) (le e:Env) (w:World) (K:Env→World→Prop):Prop:=
 match dstOk n le o.dst with
 | false=>False
 | true=>match o.guard with
  | none=>evPrim P o (le++e) [] w fun v w'=>K (put1 o.dst [] v le) w'
  | some (j,want)=>match slotOf ops j with
   | none=>False
   | some s=>match look le s with
    | none=>False
    | some en=>match pathB (le++e) ((s,want) :: en.path),gkd P o with
     | some c,some kd=>gd c (fun k=>evPrim P o (le++e) ((s,want) :: en.path) w fun v w'=>unk kd v fun x=>k x w') (dfl kd) w
       (fun x w'=>K (put1 o.dst ((s,want) :: en.path) (kval kd x) le) w')
     | _,_=>False
def evT (P:Program) (n:Nat) (ops:Array Oper) (bm:List Nat):Nat→Nat→List Pd→Env→Env→World→(Env→World→Prop)→Prop
 | 0,_,_,_,_,_,_=>False
 | f+1,d,pend,le,e,w,K=>
  match firstR d ops.toList 0 with
  | some (i,o)=>rdStep P n ops o i le e w pend fun le' pend'=>evT P n ops bm f (addB d i) pend' le' e w K
  | none=>match readyE d ops.toList 0 with
   | []=>match Nat.beq d (2 ^ ops.toList.length - 1) with
    | true=>match wkOk le e with | true=>K (strong le++e) w | false=>False
    | false=>False
   | q :: r=>allE (q :: r) fun x=>efStep P n ops x.2 le e w fun le' w'=>
     chks P w' (bm.getD x.1 0) pend (evT P n ops bm f (addB d x.1) pend le' e w' K)
def edge (ops:Array Oper) (i j:Nat):Bool:=match ops[i]? with | some o=>hasB (predM o) j | none=>false
def namesT (ops:Array Oper) (o:Oper) (t:Nat):Bool:=(o.looksAt ops).any fun u=>Nat.beq u t
def depOk (ops:Array Oper):Bool:=
 (List.range ops.size).all fun j=>match (ops[j]?).bind (·.dst) with
  | none=>true
  | some t=>(List.range ops.size).all fun i=>Nat.beq i j || (match ops[i]? with
   | some o=>(match o.dst with | some u=>!(Nat.beq u t) | none=>true)&&(!(namesT ops o t) || edge ops i j || edge ops j i)
   | none=>true)
def acyOk (ops:Array Oper):Bool:=(List.range ops.size).all fun i=>match ops[i]? with
 | some o=>Nat.blt (predM o) (2 ^ i)
 | none=>true
def uniM (ops:Array Oper) (bm:List Nat) (i:Nat):Nat→Nat
 | 0=>match ops[i]? with | some o=>predM o | none=>0
 | k+1=>bif edge ops i k then uniM ops bm i k ||| bm.getD k 0 else uniM ops bm i k
def bmOk (ops:Array Oper) (bm:List Nat):Bool:=(List.range ops.size).all fun i=>subB (bm.getD i 0) (uniM ops bm i ops.size)
def noSel (ops:Array Oper):Bool:=ops.toList.all fun o=>match o.op with | .select ..=>false | _=>true
def drOk (P:Program) (ops:Array Oper) (bm:List Nat):Bool:=depOk ops&&acyOk ops&&bmOk ops bm&&noSel ops&&P.follows .mixedOrders
theorem hasB_add {d i j:Nat} : hasB (addB d i) j=(hasB d j || decide (i=j)):=by
 simp only [hasB,addB,Nat.testBit_or,Nat.shiftLeft_eq,Nat.one_mul,Nat.testBit_two_pow]
theorem subB_spec {x y:Nat} (h:subB x y=true) {j:Nat} (hj:hasB x j=true):hasB y j=true:=by
 have:=Nat.eq_of_beq_eq_true h
 unfold hasB at hj ⊢
 rw [←this,Nat.testBit_and] at hj
 exact (Bool.and_eq_true _ _ ▸ hj).2
theorem predM_spec {o:Oper} {e:Edge} (he:e∈o.after) (hb:Region.binds .any e=true):hasB (predM o) e.on=true:=by
 unfold predM
 have:e∈o.after.toList:=Array.mem_toList_iff.2 he
 generalize o.after.toList=l at this
 induction l with
 | nil=>cases this
 | cons x r ih=>
  rw [List.foldr_cons]
  rcases List.mem_cons.1 this with rfl | h
  ·rw [hb]; simp only [cond_true,hasB_add]; simp
  ·cases Region.binds .any x with
   | true=>simp only [cond_true,hasB_add,ih h,Bool.true_or]
   | false=>exact ih h
theorem predM_spec' {o:Oper} {j:Nat} (h:hasB (predM o) j=true):∃e∈o.after,Region.binds .any e=true∧e.on=j:=by
 unfold predM at h
 have key:∀l:List Edge,hasB (l.foldr (fun e acc=>bif Region.binds .any e then addB acc e.on else acc) 0) j=true→∃e∈l,Region.binds .any e=true∧e.on=j:=by
  intro l
  induction l with
  | nil=>intro h; simp [hasB] at h
  | cons x r ih=>
   intro h
   rw [List.foldr_cons] at h
   cases hb:Region.binds .any x with
   | true=>
    rw [hb] at h; simp only [cond_true,hasB_add,Bool.or_eq_true,decide_eq_true_eq] at h
    rcases h with h | h
    ·obtain ⟨e,he,h1⟩:=ih h; exact ⟨e,List.mem_cons_of_mem _ he,h1⟩
    ·exact ⟨x,List.mem_cons_self,hb,h⟩
   | false=>
    rw [hb] at h; simp only [cond_false] at h
    obtain ⟨e,he,h1⟩:=ih h; exact ⟨e,List.mem_cons_of_mem _ he,h1⟩
 obtain ⟨e,he,h1⟩:=key _ h
 exact ⟨e,Array.mem_toList_iff.1 he,h1⟩
section
variable {P:Program} {n:Nat} {ops:Array Oper}
def Wr (ops:Array Oper) (t j:Nat):Prop:=(ops[j]?).bind (·.dst)=some t
structure DepOk (ops:Array Oper):Prop where
 uniq:∀t i j,Wr ops t i→Wr ops t j→i=j
 dep:∀t i j o,Wr ops t j→ops[i]?=some o→i≠j→t∈o.looksAt ops→edge ops i j=true∨edge ops j i=true
theorem wr_lt {t j:Nat} (h:Wr ops t j):j<ops.size:=by
 unfold Wr at h
 cases hj:ops[j]? with
 | none=>simp [hj] at h
 | some o=>exact (Array.getElem?_eq_some_iff.1 hj).1
theorem depOk_spec (h:depOk ops=true):DepOk ops:=by
 have key:∀t i j o,Wr ops t j→ops[i]?=some o→i≠j→(o.dst≠some t)∧(t∈o.looksAt ops→edge ops i j=true∨edge ops j i=true):=by
  intro t i j o hw ho hij
  have h1:=List.all_eq_true.1 h j (List.mem_range.2 (wr_lt hw))
  unfold Wr at hw
  rw [hw] at h1
  simp only [] at h1
  have hi:i<ops.size:=(Array.getElem?_eq_some_iff.1 ho).1
  have h2:=List.all_eq_true.1 h1 i (List.mem_range.2 hi)
  rw [ho] at h2
  simp only [Bool.or_eq_true,Bool.and_eq_true] at h2
  rcases h2 with h2 | ⟨h2,h3⟩
  ·exact absurd (Nat.eq_of_beq_eq_true h2) hij
  ·refine ⟨fun hd=>?_,fun hl=>?_⟩
   ·rw [hd] at h2; simp at h2
   ·rcases h3 with (h3 | h3) | h3
    ·exfalso
     simp only [Bool.not_eq_true',namesT] at h3
     exact absurd (Nat.beq_refl t) (by simpa using List.any_eq_false.1 h3 t hl)
    ·exact .inl h3
    ·exact .inr h3
 refine ⟨fun t i j hi hj=>Classical.byContradiction fun hne=>?_,fun t i j o hj ho hij hl=>(key t i j o hj ho hij).2 hl⟩
 have hi':=hi
 unfold Wr at hi'
 cases ho:ops[i]? with
 | none=>simp [ho] at hi'
 | some o=>
  rw [ho] at hi'
  exact (key t i j o hj ho hne).1 (by simpa using hi')
def Clo (ops:Array Oper) (d:Nat):Prop:=∀i j,hasB d i=true→edge ops i j=true→hasB d j=true
theorem Clo.add {d i:Nat} {o:Oper} (h:Clo ops d) (ho:ops[i]?=some o) (hr:rdyB d i o=true):Clo ops (addB d i):=by
 intro a b ha hb
 rw [hasB_add] at ha ⊢
 simp only [Bool.or_eq_true,decide_eq_true_eq] at ha ⊢
 rcases ha with ha | rfl
 ·exact .inl (h a b ha hb)
 ·simp only [rdyB,Bool.and_eq_true] at hr
  simp only [edge,ho] at hb
  exact .inl (subB_spec hr.2 hb)
structure St (ops:Array Oper) (a0:Act) (out:Nat→Value) (d:Nat) (a:Act):Prop where
 size:a.tmps.size=a0.tmps.size
 defers:a.defers=a0.defers
 yes:∀t j,Wr ops t j→hasB d j=true→a.tmps[t]?=some (out j)
 no:∀t,(∀j,Wr ops t j→hasB d j=false)→a.tmps[t]?=a0.tmps[t]?
theorem St.put {a0 a:Act} {out:Nat→Value} {d i:Nat} {o:Oper} (hu:DepOk ops) (h:St ops a0 out d a) (ho:ops[i]?=some o) (hd:∀t,o.dst=some t→t<a0.tmps.size) :
  St ops a0 out (addB d i) (a.put o.dst (out i)):=by
 refine ⟨by rw [put_size,h.size],by rw [put_defers,h.defers],fun t j hw hj=>?_,fun t hno=>?_⟩
 ·rw [hasB_add] at hj
  simp only [Bool.or_eq_true,decide_eq_true_eq] at hj
  by_cases hij:i=j
  ·subst hij
   have hdt:o.dst=some t:=by unfold Wr at hw; rw [ho] at hw; simpa using hw
   rw [hdt,put_self (by rw [h.size]; exact hd t hdt)]
  ·have hjd:hasB d j=true:=hj.resolve_right hij
   cases hdd:o.dst with
   | none=>exact h.yes t j hw hjd
   | some u=>
    have hne:u≠t:=fun e=>hij (hu.uniq t i j (by unfold Wr; rw [ho]; simp [hdd,e]) hw)
    rw [put_ne hne]; exact h.yes t j hw hjd
 ·have hno':∀j,Wr ops t j→hasB d j=false:=fun j hw=>by
   have:=hno j hw; rw [hasB_add] at this; simp only [Bool.or_eq_false_iff] at this; exact this.1
  cases hdd:o.dst with
  | none=>exact h.no t hno'
  | some u=>
   have hne:u≠t:=fun e=>by
    have:=hno i (by unfold Wr; rw [ho]; simp [hdd,e])
    rw [hasB_add] at this; simp at this
   rw [put_ne hne]; exact h.no t hno'
theorem St.look {a0 a a':Act} {out:Nat→Value} {d d' i:Nat} {o:Oper} (hu:DepOk ops) (hc:Clo ops d) (hc':Clo ops d') (h:St ops a0 out d a) (h':St ops a0 out d' a')
  (ho:ops[i]?=some o) (hr:rdyB d i o=true) (hr':rdyB d' i o=true) {t:Nat} (ht:t∈o.looksAt ops):a.tmps[t]?=a'.tmps[t]?:=by
 simp only [rdyB,Bool.and_eq_true,Bool.not_eq_true'] at hr hr'
 by_cases hw:∃j,Wr ops t j
 ·obtain ⟨j,hw⟩:=hw
  by_cases hij:i=j
  ·subst hij
   rw [h.no t (fun k hk=>by rw [hu.uniq t k i hk hw]; exact hr.1),h'.no t (fun k hk=>by rw [hu.uniq t k i hk hw]; exact hr'.1)]
  rcases hu.dep t i j o hw ho hij ht with he | he
  ·simp only [edge,ho] at he
   rw [h.yes t j hw (subB_spec hr.2 he),h'.yes t j hw (subB_spec hr'.2 he)]
  ·have hjd:hasB d j=false:=by
    cases hb:hasB d j with
    | false=>rfl
    | true=>have:=hc j i hb he; rw [hr.1] at this; cases this
   have hjd':hasB d' j=false:=by
    cases hb:hasB d' j with
    | false=>rfl
    | true=>have:=hc' j i hb he; rw [hr'.1] at this; cases this
   rw [h.no t (fun k hk=>by rw [hu.uniq t k j hk hw]; exact hjd),h'.no t (fun k hk=>by rw [hu.uniq t k j hk hw]; exact hjd')]
 ·rw [h.no t (fun j hj=>absurd ⟨j,hj⟩ hw),h'.no t (fun j hj=>absurd ⟨j,hj⟩ hw)]
def YA (P:Program) (ops:Array Oper) (w:World) (o:Oper) (v:Value) (a:Act):Prop:=
 (Region.wanted o (yielded ops a.tmps)=true→(execOp a.eval o).run P w=.ok (.value v) w)∧(Region.wanted o (yielded ops a.tmps)=false→v=undef)
theorem wanted_none {o:Oper} (h:o.guard=none) (f:Nat→Option Bool):Region.wanted o f=true:=by simp [Region.wanted,h]
theorem guard_on {le e:Env} {a:Act} {o:Oper} {j s:Nat} {want:Bool} {en:Ent} (hl:Loc le e) (hs:Sim (le++e) a) (hg:o.guard=some (j,want)) (hso:slotOf ops j=some s) (hle:look le s=some en) :
  (Region.wanted o (yielded ops a.tmps)=true↔On a ((s,want) :: en.path))∧(∀y∈(s,want) :: en.path,∃z∈le,z.slot=y.1):=by
 have hen:=hs s en (look_append_left hle)
 have hsl:=look_slot hle
 refine ⟨?_,fun y hy=>?_⟩
 ·rw [wanted_guard hg hso]
  constructor
  ·intro hv
   have hop:On a en.path:=Classical.byContradiction fun hno=>by
    have:=hen.no hno; rw [hsl,hv] at this; simp [undef] at this
   intro y hy
   rcases List.mem_cons.1 hy with rfl | hy
   ·exact hv
   ·exact hop y hy
  ·intro ho; exact ho (s,want) List.mem_cons_self
 ·rcases List.mem_cons.1 hy with rfl | hy
  ·exact ⟨en,look_mem hle,hsl⟩
  ·exact hl.wk en (look_mem hle) y hy
structure RdOut (P:Program) (ops:Array Oper) (o:Oper) (i:Nat) (e:Env) (w:World) (a:Act) (pend:List Pd) (K:Env→List Pd→Prop) (v:Value) (le':Env) (pend':List Pd):Prop where
 now:YA P ops w o v a
 sim:Sim (le'++e) (a.put o.dst v)
 loc:Loc le' e
 again:(pend'=pend∧∀w',YA P ops w' o v a)∨(∃pd,pend'=pd :: pend∧pd.i=i∧∀w',chkP P w' pd→YA P ops w' o v a)
 k:K le' pend'
theorem rdStep_spec {o:Oper} {i:Nat} {le e:Env} {w:World} {a:Act} {pend:List Pd} {K:Env→List Pd→Prop} (hl:Loc le e) (hs:Sim (le++e) a) (hn:a.tmps.size=n)
  (h:rdStep P n ops o i le e w pend K):(∀t,o.dst=some t→t<n)∧∃v le' pend',RdOut P ops o i e w a pend K v le' pend':=by
 unfold rdStep at h
 cases hd:dstOk n le o.dst with
 | false=>rw [hd] at h; exact h.elim
 | true=>
  rw [hd] at h
  simp only [] at h
  refine ⟨fun t ht=>by rw [ht] at hd; exact (dstOk_spec hd).1,?_⟩
  cases hg:o.guard with
  | none=>
   rw [hg] at h
   simp only [] at h
   have hw:=wanted_none hg (yielded ops a.tmps)
   have put:∀v,Sim (put1 o.dst [] v le++e) (a.put o.dst v)∧Loc (put1 o.dst [] v le) e:=fun v=>
    hs.put1 hl hn hd (fun y hy=>by cases hy) (fun _=>rfl) (fun hno=>absurd (On.nil a) hno)
   cases hv:evPure P o.op (le++e) [] with
   | some v=>
    rw [hv] at h
    have hr:∀w',YA P ops w' o v a:=fun w'=>⟨fun _=>evPure_spec hs (On.nil a) hv w',fun hf=>(by rw [hw] at hf; cases hf)⟩
    exact ⟨v,_,_,hr w,(put v).1,(put v).2,.inl ⟨rfl,hr⟩,h⟩
   | none=>
    rw [hv] at h
    simp only [] at h
    cases hld:ldB' o.op with
    | true=>
     rw [hld] at h
     obtain ⟨v,h1,h2⟩:=evLoad hs (On.nil a) hld h
     refine ⟨v,_,_,⟨fun _=>h1,fun hf=>(by rw [hw] at hf; cases hf)⟩,(put v).1,(put v).2,.inr ⟨_,rfl,rfl,fun w' hc=>?_⟩,h2⟩
     obtain ⟨v',g1,g2⟩:=evLoad (K:=fun v' _=>v'=v) hs (On.nil a) hld hc
     subst g2
     exact ⟨fun _=>g1,fun hf=>(by rw [hw] at hf; cases hf)⟩
    | false=>
     rw [hld] at h
     simp only [] at h
     cases hst:stB o.op with
     | false=>rw [hst] at h; exact h.elim
     | true=>
      rw [hst] at h
      obtain ⟨v,h1,h2⟩:=evStill hs (On.nil a) hst h
      have hr:∀w',YA P ops w' o v a:=fun w'=>⟨fun _=>h1 w',fun hf=>(by rw [hw] at hf; cases hf)⟩
      exact ⟨v,_,_,hr w,(put v).1,(put v).2,.inl ⟨rfl,hr⟩,h2⟩
  | some jw=>
   obtain ⟨j,want⟩:=jw
   rw [hg] at h
   simp only [] at h
   cases hso:slotOf ops j with
   | none=>rw [hso] at h; exact h.elim
   | some s=>
    rw [hso] at h
    simp only [] at h
    cases hle:look le s with
    | none=>rw [hle] at h; exact h.elim
    | some en=>
     rw [hle] at h
     simp only [] at h
     obtain ⟨hon,hp⟩:=guard_on (ops:=ops) hl hs hg hso hle
     have putY:∀v,Region.wanted o (yielded ops a.tmps)=true→Sim (put1 o.dst ((s,want) :: en.path) v le++e) (a.put o.dst v)∧Loc (put1 o.dst ((s,want) :: en.path) v le) e:=fun v hw=>
      hs.put1 hl hn hd hp (fun _=>rfl) (fun hno=>absurd (hon.1 hw) hno)
     have putN:∀v,Region.wanted o (yielded ops a.tmps)=false→Sim (put1 o.dst ((s,want) :: en.path) v le++e) (a.put o.dst undef)∧Loc (put1 o.dst ((s,want) :: en.path) v le) e:=fun v hw=>
      hs.put1 hl hn hd hp (fun hy=>absurd (hon.2 hy) (by rw [hw]; simp)) (fun _=>rfl)
     have noY:∀w',Region.wanted o (yielded ops a.tmps)=false→YA P ops w' o undef a:=fun w' hw=>⟨fun hy=>(by rw [hw] at hy; cases hy),fun _=>rfl⟩
     cases hv:evPure P o.op (le++e) ((s,want) :: en.path) with
     | some v=>
      rw [hv] at h
      cases hw:Region.wanted o (yielded ops a.tmps) with
      | true=>
       have hr:∀w',YA P ops w' o v a:=fun w'=>⟨fun _=>evPure_spec hs (hon.1 hw) hv w',fun hf=>(by rw [hw] at hf; cases hf)⟩
       exact ⟨v,_,_,hr w,(putY v hw).1,(putY v hw).2,.inl ⟨rfl,hr⟩,h⟩
      | false=>exact ⟨undef,_,_,noY w hw,(putN v hw).1,(putN v hw).2,.inl ⟨rfl,fun w'=>noY w' hw⟩,h⟩
     | none=>
      rw [hv] at h
      simp only [] at h
      split at h
      ·rename_i c kd hc hkd
       have hcp:=pathB_spec hs hc
       cases hld:ldB' o.op with
       | true=>
        rw [hld] at h
        simp only [] at h
        cases hw:Region.wanted o (yielded ops a.tmps) with
        | true=>
         have hct:=hcp.2 (hon.1 hw)
         obtain ⟨v,h1,h2⟩:=evLoad hs (hon.1 hw) hld (h.1 hct)
         obtain ⟨x,rfl,h3⟩:=unk_spec h2
         refine ⟨_,_,_,⟨fun _=>h1,fun hf=>(by rw [hw] at hf; cases hf)⟩,(putY _ hw).1,(putY _ hw).2,.inr ⟨_,rfl,rfl,fun w' hk=>?_⟩,h3⟩
         obtain ⟨v',g1,g2⟩:=evLoad (K:=fun v' _=>v'=kval kd x) hs (hon.1 hw) hld (hk hct)
         subst g2
         exact ⟨fun _=>g1,fun hf=>(by rw [hw] at hf; cases hf)⟩
        | false=>
         have hcf:c=false:=by
          cases c with
          | false=>rfl
          | true=>have:=hon.2 (hcp.1 rfl); rw [hw] at this; cases this
         exact ⟨undef,_,_,noY w hw,(putN _ hw).1,(putN _ hw).2,.inr ⟨_,rfl,rfl,fun w' _=>noY w' hw⟩,h.2 hcf⟩
       | false=>
        rw [hld] at h
        simp only [] at h
        cases hst:stB o.op with
        | false=>rw [hst] at h; exact h.elim
        | true=>
         rw [hst] at h
         simp only [] at h
         cases hw:Region.wanted o (yielded ops a.tmps) with
         | true=>
          have hct:=hcp.2 (hon.1 hw)
          obtain ⟨v,h1,h2⟩:=evStill hs (hon.1 hw) hst (h.1 hct)
          obtain ⟨x,rfl,h3⟩:=unk_spec h2
          have hr:∀w',YA P ops w' o (kval kd x) a:=fun w'=>⟨fun _=>h1 w',fun hf=>(by rw [hw] at hf; cases hf)⟩
          exact ⟨_,_,_,hr w,(putY _ hw).1,(putY _ hw).2,.inl ⟨rfl,hr⟩,h3⟩
         | false=>
          have hcf:c=false:=by
           cases c with
           | false=>rfl
           | true=>have:=hon.2 (hcp.1 rfl); rw [hw] at this; cases this
          exact ⟨undef,_,_,noY w hw,(putN _ hw).1,(putN _ hw).2,.inl ⟨rfl,fun w'=>noY w' hw⟩,h.2 hcf⟩
      ·exact h.elim
theorem efStep_spec {o:Oper} {le e:Env} {w:World} {a:Act} {K:Env→World→Prop} (hl:Loc le e) (hs:Sim (le++e) a) (hn:a.tmps.size=n)
  (h:efStep P n ops o le e w K):(∀t,o.dst=some t→t<n)∧
   (Region.wanted o (yielded ops a.tmps)=true→Upn P (fun v w'=>∃le',Sim (le'++e) (a.put o.dst v)∧Loc le' e∧K le' w') ((execOp a.eval o).run P w))∧
   (Region.wanted o (yielded ops a.tmps)=false→∃le',Sim (le'++e) (a.put o.dst undef)∧Loc le' e∧K le' w):=by
 unfold efStep at h
 cases hd:dstOk n le o.dst with
 | false=>rw [hd] at h; exact h.elim
 | true=>
  rw [hd] at h
  simp only [] at h
  refine ⟨fun t ht=>by rw [ht] at hd; exact (dstOk_spec hd).1,?_⟩
  cases hg:o.guard with
  | none=>
   rw [hg] at h
   simp only [] at h
   have hw:=wanted_none hg (yielded ops a.tmps)
   refine ⟨fun _=>(evPrim_run hs (On.nil a) h).mono fun v w' hK=>?_,fun hf=>(by rw [hw] at hf; cases hf)⟩
   have:=hs.put1 hl hn hd (p:=[]) (v:=v) (v':=v) (fun y hy=>by cases hy) (fun _=>rfl) (fun hno=>absurd (On.nil a) hno)
   exact ⟨_,this.1,this.2,hK⟩
  | some jw=>
   obtain ⟨j,want⟩:=jw
   rw [hg] at h
   simp only [] at h
   cases hso:slotOf ops j with
   | none=>rw [hso] at h; exact h.elim
   | some s=>
    rw [hso] at h
    simp only [] at h
    cases hle:look le s with
    | none=>rw [hle] at h; exact h.elim
    | some en=>
     rw [hle] at h
     simp only [] at h
     obtain ⟨hon,hp⟩:=guard_on (ops:=ops) hl hs hg hso hle
     split at h
     ·rename_i c kd hc hkd
      have hcp:=pathB_spec hs hc
      refine ⟨fun hw=>?_,fun hw=>?_⟩
      ·refine (evPrim_run hs (hon.1 hw) (h.1 (hcp.2 (hon.1 hw)))).mono fun v w' hK=>?_
       obtain ⟨x,rfl,hK'⟩:=unk_spec hK
       have:=hs.put1 hl hn hd (v:=kval kd x) (v':=kval kd x) hp (fun _=>rfl) (fun hno=>absurd (hon.1 hw) hno)
       exact ⟨_,this.1,this.2,hK'⟩
      ·have hcf:c=false:=by
        cases c with
        | false=>rfl
        | true=>have:=hon.2 (hcp.1 rfl); rw [hw] at this; cases this
       have:=hs.put1 hl hn hd (v:=kval kd (dfl kd)) (v':=undef) hp (fun hy=>absurd (hon.2 hy) (by rw [hw]; simp)) (fun _=>rfl)
       exact ⟨_,this.1,this.2,h.2 hcf⟩
     ·exact h.elim
end
end Go.Proofs.YtmhjehodfggleaaGreat.Vc
