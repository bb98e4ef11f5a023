/- The operations of the layer Av that change memory, or call: each is what the model's operation comes to. No condition. -/
import Derived.Laws.NewFold
import Derived.OrdersIn
import Derived.RangeFuncSeq
import Derived.Test.YtmglaebjmaomnaaGreatDoorTAv11
open Array renaming ext'→dC
open Bool renaming and_eq_true→aG, false_eq_true→aF
open List renaming length_take→bf, length_drop→aV, getElem?_append_left→gZ, getElem?_toArray→iM, getElem?_cons_zero→iD, getElem?_cons_succ→iE, length_append→aH, append_nil→aS
open Nat renaming mul_le_mul_right→gV
set_option linter.unusedSimpArgs false
set_option linter.unusedVariables false
namespace Go.Av
open Go.RowKit
inductive Out where
 |ret (v:V)
 |pan (v:V)
inductive zaK (G:Gh):Out→Ending→Prop
 |ret {v:V} {u:Value}:ku G v u→zaK G (.ret v) (.returned u)
 |pan {v:V} {u:Value}:ku G v u→zaK G (.pan v) (.panicked [{ v:=u,recovered:=false }])
def Store.or(m f:Store):Store:=fun b=>match m b with
 |some x=>some x
 |none=>f b
def mQ(m f:Store):Prop:=∀ b,m b=none∨f b=none
theorem oC{m f:Store}{b:Nat}{x:Blk}(h:m b=some x):(m.or f) b=some x:=by simp[Store.or,h]
theorem mX{m f:Store}{b:Nat}(h:(m.or f) b=none):m b=none∧f b=none:=by
 unfold Store.or at h
 split at h
 ·cases h
 ·exact⟨‹_›,h⟩
theorem xK(m f:Store)(b:Nat)(x:Blk):(m.set b x).or f=(m.or f).set b x:=by
 funext b';simp only[Store.or,Store.set]
 by_cases e:b'=b
 ·simp[e]
 ·simp[e]
theorem mQ.set{m f:Store}(h:mQ m f){b:Nat}(x:Blk)(hb:f b=none):mQ (m.set b x) f:=by
 intro b'
 by_cases e:b'=b
 ·subst e;exact .inr hb
 ·rw[Store.jw _ _ e];exact h b'
theorem mQ.CG{m f:Store}(h:mQ m f){b:Nat}{x:Blk}(hb:m b=some x):f b=none:=by
 rcases h b with h|h
 ·rw[hb]at h;cases h
 ·exact h
theorem or_assoc(a b c:Store):(a.or b).or c=a.or (b.or c):=by
 funext x;simp only[Store.or];cases a x<;>simp
def enters(P:Program)(f:FuncId):Bool:=match P.funcs[f]? with
 | some fn => fn.name != "runtime.NumGoroutine" && fn.body.isSome
 |none=>false
def jB(P:Program)(Γ:jG)(f:FuncId)(args:List V)(m:Store)(R:Out→Store→Prop):Prop:=
 enters P f=true∧∀ (G:Gh) (B0:Nat) (mF:Store) (w:World) (cargs:List Value),mQ m mF→Rep Γ B0 G (m.or mF) w→kE G args cargs →
  Calls P f cargs.toArray w fun e w' => ∃ G' m' o,G.le G' ∧ mQ m' mF∧Rep Γ B0 G' (m'.or mF) w'∧Below B0 w w' ∧ zaK G' o e∧R o m'
theorem jB.mono{P:Program}{Γ:jG}{f:FuncId}{args:List V}{m:Store}{R R':Out→Store→Prop}(h:jB P Γ f args m R)(hr:∀ o m',R o m' → R' o m'):jB P Γ f args m R' :=
 ⟨h.1,fun G B0 mF w cargs hD hR hL=>(h.2 G B0 mF w cargs hD hR hL).mono fun _ _ ⟨G',m',o,a,b,c,d,e,r⟩=>⟨G',m',o,a,b,c,d,e,hr _ _ r⟩⟩
theorem jB.frame{P:Program}{Γ:jG}{f:FuncId}{args:List V}{m mF:Store}{R:Out→Store→Prop}(h:jB P Γ f args m R)(hD:mQ m mF) :
  jB P Γ f args (m.or mF) fun o m'' => ∃ m',m'' = m'.or mF∧mQ m' mF∧R o m':=by
 refine⟨h.1,fun G B0 mG w cargs hD2 hR hL => ?_⟩
 have hD3:mQ m (mF.or mG):=by
  intro b
  rcases hD b with h1|h1
  ·exact .inl h1
  ·rcases hD2 b with h2|h2
   ·exact .inl (mX h2).1
   ·exact .inr (by simp[Store.or,h1,h2])
 refine(h.2 G B0 (mF.or mG) w cargs hD3 (by rwa [←or_assoc]) hL).mono ?_;rintro e w' ⟨G',m',o,a,b,c,d,e,r⟩;refine⟨G',m'.or mF,o,a,fun x => ?_,by rwa [or_assoc],d,e,m',rfl,fun x => ?_,r⟩
 ·rcases b x with h1|h1
  ·rcases hD2 x with h2|h2
   ·exact .inl (by simp[Store.or,h1,(mX h2).2])
   ·exact .inr h2
  ·exact .inr (mX h1).2
 ·rcases b x with h1|h1
  ·exact .inl h1
  ·exact .inr (mX h1).1
def oG(P:Program)(Γ:jG)(l:Nat)(args:List V)(m:Store)(R:Out→Store→Prop):Prop:=
 ∀ (G:Gh) (B0:Nat) (mF:Store) (w:World) (cargs:List Value),mQ m mF→Rep Γ B0 G (m.or mF) w→kE G args cargs →
  YieldAt Fence.wide 0 P l cargs.toArray w fun e w' => ∃ G' m' o,G.le G' ∧ mQ m' mF∧Rep Γ B0 G' (m'.or mF) w'∧Below B0 w w' ∧ zaK G' o e∧R o m'
theorem BU{F:Fence}{n:Nat}{P:Program}{l:Nat}{args:Array Value}{w:World}{R R':Ending→World→Prop}(h:YieldAt F n P l args w R)(hr:∀ e w',R e w' → R' e w'):YieldAt F n P l args w R':=by
 obtain⟨fn,tmps,assign,body,h1,h2⟩:=h;exact⟨fn,tmps,assign,body,h1,h2.mono hr⟩
theorem oG.mono{P:Program}{Γ:jG}{l:Nat}{args:List V}{m:Store}{R R':Out→Store→Prop}(h:oG P Γ l args m R)(hr:∀ o m',R o m' → R' o m'):oG P Γ l args m R' :=
 fun G B0 mF w cargs hD hR hL=>BU (h G B0 mF w cargs hD hR hL) fun _ _ ⟨G',m',o,a,b,c,d,e,r⟩=>⟨G',m',o,a,b,c,d,e,hr _ _ r⟩
theorem oG.room{P:Program}{Γ:jG}{l:Nat}{args:List V}{m:Store}{R:Out→Store→Prop}(h:oG P Γ l args m R):oG P Γ l args m fun o m' => R o m'∧∃ n,∀ b,n≤b→m' b=none:=
 fun G B0 mF w cargs hD hR hL => BU (h G B0 mF w cargs hD hR hL) fun _ w' ⟨G',m',o,a,b,c,d,e,r⟩ => ⟨G',m',o,a,b,c,d,e,r,w'.heap.size,fun b hb => by
  cases hm:m' b with
  |none=>rfl
  |some x=>have:=c.lt (oC (f:=mF) hm);omega⟩
theorem oG.frame{P:Program}{Γ:jG}{l:Nat}{args:List V}{m mF:Store}{R:Out→Store→Prop}(h:oG P Γ l args m R)(hD:mQ m mF) :
  oG P Γ l args (m.or mF) fun o m'' => ∃ m',m'' = m'.or mF∧mQ m' mF∧R o m':=by
 intro G B0 mG w cargs hD2 hR hL
 have hD3:mQ m (mF.or mG):=by
  intro b
  rcases hD b with h1|h1
  ·exact .inl h1
  ·rcases hD2 b with h2|h2
   ·exact .inl (mX h2).1
   ·exact .inr (by simp[Store.or,h1,h2])
 refine BU (h G B0 (mF.or mG) w cargs hD3 (by rwa [←or_assoc]) hL) ?_;rintro e w' ⟨G',m',o,a,b,c,d,e,r⟩;refine⟨G',m'.or mF,o,a,fun x => ?_,by rwa [or_assoc],d,e,m',rfl,fun x => ?_,r⟩
 ·rcases b x with h1|h1
  ·rcases hD2 x with h2|h2
   ·exact .inl (by simp[Store.or,h1,(mX h2).2])
   ·exact .inr h2
  ·exact .inr (mX h1).2
 ·rcases b x with h1|h1
  ·exact .inl h1
  ·exact .inr (mX h1).1
def Fr(r:Option Nat):Fence:={ Fence.wide with round:=r }
theorem Dh{r:Option Nat}{n:Nat}{P:Program}{f:FuncId}{args:Array Value}{w:World}{R:Ending→World→Prop}:CallsIn (Fr r) n P f args w R↔Calls P f args w R:=callsIn_wide
theorem Y8{r:Option Nat}{n:Nat}{P:Program}{row:String}{args:Array Value}{w:World}{R:Value→World→Prop}(h:Rows P row args w R):RowsIn (Fr r) n P row args w R:=fun c cs _=>by
 obtain⟨v,w',h1,h2⟩:=h c cs;exact⟨v,w',h1,stepsIn_wide.2 h2⟩
theorem VL{r:Option Nat}{n n':Nat}{P:Program}{l:Nat}{f:FuncId}{tmps:Array Value}{assign body:Code}{w:World}{R:Ending→World→Prop}(h:RoundIn Fence.wide n P l f tmps assign body w R):RoundIn (Fr r) n' P l f tmps assign body w R:=
 ⟨trivial,fun c cs _=>h.2 c cs (room_wide _)⟩
def extra(m:Store)(size:Nat):V→Option (List V)
 | .sl ys _ _=>some ys
 | .val (.string s)=>some (bytesV s)
 | .arr b o len _=>match m b with
  |some (.var _ cs)=>if size=1∧o+len≤cs.length∧((cs.drop o).take len).all oW=true then some ((cs.drop o).take len)else none
  |_=>none
 |_=>none
def vM(size:Nat)(ys:List V):Prop:=∀ y∈ys,y.cells.length=size∧∀ c∈y.cells,oW c=true
def Na(n bytes:Nat):Prop:=n*bytes≤140737488355328∨(bytes=1∧n≤140737500000000)
def opE(P:Program)(Γ:jG)(ρ:Operand→V)(m:Store)(K:V→Store→Prop)(Kp:V→Store→Prop):AOp→Prop
 | .alloc T cells=>∀ b,m b=none→K (.ptr b 0) (m.set b (.var T cells))
 | .box T x=>∀ b,m b=none→K (.ptr b 0) (m.set b (.var T (ρ x).cells))
 | .store size a x=>match ρ a with
  | .ptr b o=>match m b with
   |some (.var T cs)=>(ρ x).cells.length=size∧o+size≤cs.length∧(∀ c∈(ρ x).cells,oW c=true)∧K (.val undef) (m.set b (.var T (Ag cs o (ρ x).cells)))
   |_=>False
  |_=>False
 | .s2b e x=>match ρ x with
  | .val (.string s)=>∀ t,m t=none→K (.sl (bytesV s) [] (.tip t 0)) (m.set t (.tip e 0))
  |_=>False
 | .mark x=>match ρ x with
  | .sl es more .own=>K (.sl es more .own) m
  |_=>False
 | .app e bytes size s x=>match ρ s,extra m size (ρ x)with
  | .sl es more tok,some ys => (ys = [] → K (.sl es more tok) m) ∧ (ys ≠ [] → oq size es = true ∧ vM size ys ∧ Na (es.length + ys.length) bytes ∧ match tok with
   | .full=>more=[]∧∀ t,m t=none→K (.sl (es++ys) [] (.tip t 0)) (m.set t (.tip e 0))
   | .zero _=>more=[]∧∀ t,m t=none→K (.sl (es++ys) [] (.tip t 0)) (m.set t (.tip e 0))
   | .tip t v=>more=[]∧es≠[]∧m t=some (.tip e v)∧K (.sl (es++ys) [] (.tip t (v+1))) (m.set t (.tip e (v+1)))
   | .tipz t v z=>more=[]∧z=size∧m t=some (.tip e v)∧K (.sl (es++ys) [] (.tip t (v+1))) (m.set t (.tip e (v+1)))
   | .no=>False
   | .non=>False
   | .own=>False)
  |_,_=>False
 | .bad=>False
 | .panic x=>match ρ x with
  | .ifc t v=>Kp (.ifc t v) m
  |_=>False
 | .appz e bytes size s n=>match ρ s,ρ n with
  | .sl [] [] .full,.val (.int .i64 i)=>0<i∧i.toNat*bytes≤140737488355328∧∀ t,m t=none→K (.res t 0 size i.toNat) (m.set t (.tip e 0))
  |_,_=>False
 | .mks e bytes z len cap=>match ρ len,ρ cap with
  | .val (.int .i64 l),.val (.int .i64 c)=>0≤l∧l≤c∧c.toNat*bytes≤140737488355328∧∀ b,m b=none→K (.arr b 0 l.toNat c.toNat) (m.set b (.var e (List.replicate c.toNat z).flatten))
  |_,_=>False
 | .call f args=>match ρ f with
  | .fn (.func g) first caps=>jB P Γ g (first++args.map ρ++caps) m fun o m'=>match o with
   | .ret v=>K v m'
   | .pan v=>Kp v m'
  | .fn (.yield l) [] []=>oG P Γ l (args.map ρ) m fun o m'=>match o with
   | .ret v=>K v m'
   | .pan v=>Kp v m'
  |_=>False
 |ao=>∃ v,jJ P ρ m ao=some v∧K v m
section
variable {P:Program} {Γ:jG} {B0:Nat} {G:Gh} {m mF:Store} {w:World} {ρ:Operand→V}
theorem nextslicecap_le{need cap:Nat}(h:cap<need):Builtin.nextslicecap need cap≤2*need:=by
 unfold Builtin.nextslicecap
 split
 ·omega
 ·split
  ·omega
  ·have key:∀ r c,256≤c→c≤need+need→Builtin.growBy need r c≤2*need:=by
    intro r
    induction r with
    |zero=>intro c _ h;simp only[Builtin.growBy];omega
    |succ r ih=>
     intro c h0 h1;simp only[Builtin.growBy]
     split
     ·omega
     ·exact ih _ (by omega) (by omega)
   exact key 4 cap (by omega) (by omega)
theorem Jy{need cap:Nat}(h:cap<need):Builtin.nextslicecap need cap≤need+need / 4+512:=by
 unfold Builtin.nextslicecap
 split
 ·omega
 ·split
  ·omega
  ·have key:∀ r c,c≤need+need / 4+512→Builtin.growBy need r c≤need+need / 4+512:=by
    intro r
    induction r with
    |zero=>intro c h1;simp only[Builtin.growBy];omega
    |succ r ih=>
     intro c h1;simp only[Builtin.growBy]
     split
     ·omega
     ·exact ih _ (by omega)
   exact key 4 cap (by omega)
structure After (P:Program) (Γ:jG) (B0:Nat) (G:Gh) (mF:Store) (w:World) (o:Oper) (a:Act) (K Kp:V→Store→Prop) (next:Act→World→Prop) (Q:Exit→Act→World→Prop):Prop where
 next:∀ v u m' G' w',G.le G' → mQ m' mF→Rep Γ B0 G' (m'.or mF) w'→Below B0 w w' → ku G' v u→K v m'→next (a.put o.dst u) w'
 panic:∀ v u m' G' w',G.le G' → mQ m' mF→Rep Γ B0 G' (m'.or mF) w'→Below B0 w w' → ku G' v u→Kp v m'→Q (.panic [{ v:=u,recovered:=false }]) a w'
variable {o:Oper} {a:Act} {K Kp:V→Store→Prop} {next:Act→World→Prop} {Q:Exit→Act→World→Prop}
theorem tK{u:Value}{w':World}(h:(execOp a.eval o).run P w = .ok (.value u) w')(hn:next (a.put o.dst u) w'):o.wp P a w next Q:=by
 unfold Oper.wp;rw[h];exact hn
theorem oM{r:Option Nat}(hd:∀ c,o.op ≠ .defer c)(h:o.wp P a w next Q):o.wpIn (Fr r) 0 P a w next Q:=by
 refine⟨fun _ _=>trivial,?_⟩;rw[Oper.semAt_eq _ _ _ hd];unfold Oper.wp at h;generalize (execOp a.eval o).run P w=z at h;have h0:(Fr r).depth.isSome=true→1≤0:=fun k=>by cases k
 cases z with
 |ok x w' =>
  cases x<;>simp only[Oper.upon]at h<;>simp only[Oper.uponIn]<;>first
   |exact h
   |exact⟨h0,Dh.2 (h.mono fun e w'' k=>by cases e<;>exact k)⟩
   |exact⟨h0,Y8 h⟩
 |halt x w'=>cases x<;>simp only[Oper.upon]at h<;>simp only[Oper.uponIn]<;>exact h
theorem ZB{ao:AOp}(hA:After P Γ B0 G mF w o a K Kp next Q)(hc:nI P o=some ao)(hρ:∀ x∈o.op.operands,ku G (ρ x) (a.eval x))(hD:mQ m mF)(hR:Rep Γ B0 G (m.or mF) w)
  (hE:∃ v,jJ P ρ m ao=some v∧K v m):o.wp P a w next Q:=by
 obtain⟨v,he,hk⟩:=hE;obtain⟨u,w',G',h1,h2,h3,h4,h5⟩:=UX hR (fun b c hb=>oC hb) hc hρ he;exact tK h1 (hA.next v u m G' w' h2 hD h3 h4 h5 hk)
theorem JZ(hA:After P Γ B0 G mF w o a K Kp next Q)(hD:mQ m mF)(hR:Rep Γ B0 G (m.or mF) w){cs:List V}{z:Value}{T:TypeId}(hr:kE G cs z.cells.toList)
  (hK:∀ b,m b=none→K (.ptr b 0) (m.set b (.var T cs))):next (a.put o.dst (.pointer (some ⟨w.heap.size,0,none⟩))) (w.alloc (.cells z.cells T)):=by
 have hf:=mX hR.fresh;have:=hR.newVar T hr;rw[←xK]at this;simp only[Array.toArray_toList]at this;exact hA.next (.ptr w.heap.size 0) _ _ G _ (Gh.le.refl G) (hD.set _ hf.2) this ((Below.refl B0 w).alloc hR.base _) (.ptr _ _) (hK _ hf.1)
theorem ZF{T:TypeId}{z:List V}(hop:o.op = .alloc T)(hA:After P Γ B0 G mF w o a K Kp next Q)(hD:mQ m mF)(hR:Rep Γ B0 G (m.or mF) w)
  (hz:rF P T=some z) (hok:pM P T=true) (hE:∀ b,m b=none→K (.ptr b 0) (m.set b (.var T z))):o.wp P a w next Q:=by
 obtain⟨zv,h1,h2⟩:=wX (G:=G) (w:=w) hz hok;refine tK (w':=w.alloc (.cells zv.cells T)) ?_ (JZ hA hD hR h2 hE);simp[execOp,hop,Instr.alloc,h1,newVar,newRow]
theorem zd8{T:TypeId}{x:Operand}(hop:o.op = .box T x)(hA:After P Γ B0 G mF w o a K Kp next Q)(hx:ku G (ρ x) (a.eval x))(hD:mQ m mF)(hR:Rep Γ B0 G (m.or mF) w)
  (hE:∀ b,m b=none→K (.ptr b 0) (m.set b (.var T (ρ x).cells))):o.wp P a w next Q:=by
 refine tK (w':=w.alloc (.cells (a.eval x).cells T)) ?_ (JZ hA hD hR hx.cells hE);simp[execOp,hop,Instr.box,newVar,newRow]
theorem Zz{T:TypeId}{s:Nat}{x y:Operand}(hop:o.op = .store T x y)(hs:nZ P T=some s)(hA:After P Γ B0 G mF w o a K Kp next Q)(hx:ku G (ρ x) (a.eval x))(hy:ku G (ρ y) (a.eval y))
  (hD:mQ m mF) (hR:Rep Γ B0 G (m.or mF) w)
  (hE : match ρ x with
  | .ptr b o=>match m b with
   |some (.var T cs)=>(ρ y).cells.length=s∧o+s≤cs.length∧(∀ c∈(ρ y).cells,oW c=true)∧K (.val undef) (m.set b (.var T (Ag cs o (ρ y).cells)))
   |_=>False
  |_=>False):o.wp P a w next Q:=by
 split at hE
 ·rename_i b off hp;rw[hp]at hx
  split at hE
  ·rename_i T' cs hb;obtain⟨h1,h2,h3,h4⟩:=hE;have hcy:=hy.cells;have hlen:=hcy.length;simp only[Array.length_toList]at hlen;have hb':=oC (f:=mF) hb;have hst:=OX (P:=P) (o:=off) (cs:=cs) hR hb' hcy h3 (by omega)
   have hrun:(execOp a.eval o).run P w = .ok .skip (w.setCells b off (a.eval y).cells.toList):=by
    have hxv:a.eval x = .pointer (some ⟨b,off,none⟩):=by
     generalize a.eval x=z at hx;cases hx;rfl
    simp[execOp,hop,hxv,Instr.storeAt,Instr.sureAddr,storeVar,run_sizeOf hs,show(a.eval y).cells.size=s by omega,hst]
   unfold Oper.wp;rw[hrun];have hrep:=hR.stores (o:=off) hb' hcy;rw[←xK]at hrep;exact hA.next (.val undef) undef _ G _ (Gh.le.refl G) (hD.set _ (hD.CG hb)) hrep (below_setCells (hR.var b _ cs hb').1 _ _ (Below.refl B0 w)) (.val rfl) h4
  ·cases hE
 ·cases hE
theorem zbN{c:Call}{f:Operand}(hop:o.op = .call c)(hf:c.callee = .value f)(hA:After P Γ B0 G mF w o a K Kp next Q)(hfv:ku G (ρ f) (a.eval f))(hargs:∀ x∈c.args.toList,ku G (ρ x) (a.eval x))
  (hD:mQ m mF) (hR:Rep Γ B0 G (m.or mF) w)
  (hE : match ρ f with
  | .fn (.func g) first caps=>jB P Γ g (first++c.args.toList.map ρ++caps) m fun o m'=>match o with
   | .ret v=>K v m'
   | .pan v=>Kp v m'
  |_=>False):o.wp P a w next Q:=by
 split at hE
 ·rename_i g first caps hp;rw[hp]at hfv
  have hfc:∃ us ws,a.eval f = .func (.func g) us.toArray ws.toArray∧kE G first us∧kE G caps ws:=by
   generalize a.eval f=z at hfv
   cases hfv with
   |fn h1 h2=>exact⟨_,_,rfl,h1,h2⟩
  obtain⟨us,ws,e1,r1,r2⟩:=hfc;have hcall:=hE.2 G B0 mF w _ hD hR ((r1.append (zq hargs)).append r2);have hent:=hE.1;unfold enters at hent
  split at hent
  ·rename_i fn hfn;simp only[aG,bne_iff_ne,ne_eq]at hent
   have hrun:(execOp a.eval o).run P w = .ok (.enter g (us++c.args.toList.map a.eval++ws).toArray) w:=by
    have hbody:fn.body.isNone=false:=by
     cases hb:fn.body<;>simp_all
    simp only[execOp,hop,resolve,hf,e1,Deferred.ofValue,Sem.run_bind,Sem.run_pure,Result.andThen_ok,invoke,callFunc,run_program,hfn];simp[hent.1,hbody]
   unfold Oper.wp;rw[hrun,Oper.upon_enter];refine hcall.mono ?_;rintro e w' ⟨G',m',oo,h1,h2,h3,h4,h5,h6⟩
   cases h5 with
   |ret r=>exact hA.next _ _ m' G' w' h1 h2 h3 h4 r h6
   |pan r=>exact hA.panic _ _ m' G' w' h1 h2 h3 h4 r h6
  ·cases hent
 ·cases hE
theorem Zy{r:Option Nat}{c:Call}{f:Operand}{l:Nat}(hop:o.op = .call c)(hf:c.callee = .value f)(hA:After P Γ B0 G mF w o a K Kp next Q)(hfv:ku G (.fn (.yield l) [] []) (a.eval f))(hargs:∀ x∈c.args.toList,ku G (ρ x) (a.eval x))
  (hD:mQ m mF) (hR:Rep Γ B0 G (m.or mF) w)
  (hE : oG P Γ l (c.args.toList.map ρ) m fun o m' => match o with
   | .ret v=>K v m'
   | .pan v=>Kp v m'):o.wpIn (Fr r) 0 P a w next Q:=by
 have e1:a.eval f = .func (.yield l) #[] #[]:=by
  generalize a.eval f=z at hfv
  cases hfv with
  |fn h1 h2=>
   obtain rfl:=h1.kN;obtain rfl:=h2.kN;rfl
 obtain⟨fn,tmps,asg,body,h1,h2⟩:=hE G B0 mF w _ hD hR (zq hargs)
 have hrun:(execOp a.eval o).run P w = .ok (.round l fn tmps asg body) w:=by
  have e2:(c.args.toList.map a.eval).toArray=c.args.map a.eval:=by apply dC;simp
  rw[e2]at h1;simp[execOp,hop,resolve,hf,e1,Deferred.ofValue,invoke,h1]
 refine⟨fun _ _=>trivial,?_⟩;rw[Oper.semAt_eq _ _ _ (fun c' k=>by rw[hop]at k;cases k),hrun,Oper.uponIn_round];refine⟨(fun k=>by cases k),(VL h2).mono ?_⟩;rintro e w' ⟨G',m',oo,h1,h2,h3,h4,h5,h6⟩
 cases h5 with
 |ret r=>exact hA.next _ _ m' G' w' h1 h2 h3 h4 r h6
 |pan r=>exact hA.panic _ _ m' G' w' h1 h2 h3 h4 r h6
theorem OC(s:ByteArray):kE G (bytesV s) (s.data.toList.map fun b=>Value.int .u8 b.toNat):=by
 unfold bytesV;rw[show(s.data.toList.map fun b=>V.val (Value.int .u8 b.toNat))=(s.data.toList.map fun b=>Value.int .u8 b.toNat).map V.val from by simp]
 exact kE.vals _ (fun v hv => by
  obtain⟨b,_,rfl⟩:=List.mem_map.1 hv
  rfl)
theorem Qs:∀ (l:List Value),flat (l.map V.val)=l.map V.val
 |[]=>rfl
 |v::l=>by rw[List.map_cons,lD,Qs l];rfl
theorem Ku(s:ByteArray):flat (bytesV s)=bytesV s:=by
 unfold bytesV;rw[show(s.data.toList.map fun b=>V.val (Value.int .u8 b.toNat))=(s.data.toList.map fun b=>Value.int .u8 b.toNat).map V.val from by simp];exact Qs _
theorem P9{es:List V}{us rest:List Value}{t v size nr:Nat}(hes:∀ e∈es,e.cells.length=size)(h0:0<size){G':Gh}{b:Nat}(hr:kE G' (flat es) us)(hh:G'.has ⟨b,0,none⟩ us)
  (hH:G'.H t v=some (b,us.length,us.length+rest.length)) (hrest:rest.length=nr*size):ku G' (.sl es [] (.tip t v)) (.slice (some ⟨b,0,none⟩) es.length (es.length+nr)):=by
 have hl:us.length=es.length*size:=by rw[←hr.length,flat_length hes]
 refine .sl (s:=size) (us:=us) (by simpa using hes) (by simpa using hr) hh (by simp) h0 ?_;show G'.H t v=_;rw[hH,hl,hrest,Nat.add_mul];simp
theorem PD{x:V}{u:Value}{ys:List V}{size:Nat}(hx:ku G x u)(he:extra m size x=some ys):(Builtin.lenOf u).run P w = .ok ys.length w:=by
 cases hx with
 | @val v hn=>
  clear hn;cases u<;>simp[extra]at he
  subst he;simp[Builtin.lenOf,bytesV]
 |nil h=>simp[extra]at he;subst he;simp[Builtin.lenOf]
 |sl _ _ _ _ _ _=>simp[extra]at he;subst he;simp[Builtin.lenOf]
 |arr b o len cap=>
  simp only[extra]at he
  split at he
  ·split at he
   ·rename_i hc;cases he;simp only[Builtin.lenOf,Sem.run_pure];congr 1;rw[bf,aV];omega
   ·cases he
  ·cases he
 |_=>simp[extra]at he
theorem V4{v:V}(h:oW v=true):v.cells=[v]:=by
 cases v<;>first|rfl|simp[oW]at h
theorem Qu:∀ {l:List V},l.all oW=true→flat l=l
 |[],_=>rfl
 |v::l,h=>by
  simp only[List.all_cons,aG]at h;rw[lD,V4 h.1,Qu h.2];rfl
theorem zn{x:V}{u:Value}{ys:List V}{size:Nat}{mm:Store}(hR:Rep Γ B0 G mm w)(hm:∀ b c,m b=some c→mm b=some c)(hx:ku G x u)(he:extra m size x=some ys)(hsz:∀ y∈ys,y.cells.length=size) :
  ∃ us,(Builtin.firstCells size ys.length u).run P w = .ok us.toArray w∧kE G (flat ys) us:=by
 cases hx with
 | @val v hn=>
  clear hn;cases u<;>simp[extra]at he
  rename_i s;subst he;refine⟨s.data.toList.map fun b=>Value.int .u8 b.toNat,?_,by rw[Ku];exact OC s⟩;simp only[Builtin.firstCells,Sem.run_pure];congr 1
  have:s.extract 0 (bytesV s).length=s:=by
   have h1:(bytesV s).length=s.size:=by simp[bytesV]
   rw[h1];exact ByteArray.extract_zero_size
  rw[this];apply dC;simp
 |nil h=>simp[extra]at he;subst he;exact⟨[],by simp[Builtin.firstCells],.nil⟩
 |sl hu hr hk hl h0 ht=>
  rename_i es more tok us a cap s;simp[extra]at he;subst he;rw[uM]at hr;obtain⟨us1,us2,rfl,r1,r2⟩:=hr.split;have hlen:us1.length=es.length*size:=by rw[←r1.length,flat_length hsz]
  refine⟨us1,?_,r1⟩;simp only[Builtin.firstCells,loadCells]
  rw [run_loadCellsFrom (es.length * size) 0 #[] us1 hlen (fun j u hu => by
   rw[Nat.zero_add];refine Og hR hk ?_;rw[gZ (List.getElem?_eq_some_iff.1 hu).1]
   exact hu)]
  simp
 |arr b o len cap=>
  simp only[extra]at he
  split at he
  ·rename_i T cs hb
   split at he
   ·rename_i hc;obtain⟨rfl,h1,h2⟩:=hc;cases he;obtain⟨_,⟨us,g1,g2⟩,_⟩:=hR.var b T cs (hm _ _ hb);have hl:=g2.length;have hlen:((cs.drop o).take len).length=len:=by rw[bf,aV];omega
    refine⟨(us.drop o).take len,?_,by rw[Qu h2];exact(g2.drop o).take len⟩;simp only[Builtin.firstCells,loadCells,hlen,Nat.mul_one]
    rw [run_loadCellsFrom len 0 #[] ((us.drop o).take len) (by rw [bf,aV]; omega) (fun j u hu => by
     rw[Nat.zero_add,add_plain rfl]
     have hj:j<len:=by
      have:=(List.getElem?_eq_some_iff.1 hu).1;rw[bf]at this;omega
     rw[List.getElem?_take_of_lt hj,List.getElem?_drop]at hu
     simp[World.cell?,g1,hu])]
    simp
   ·cases he
  ·cases he
 |_=>simp[extra]at he
theorem vV(zero:Array Value)(n:Nat):(Builtin.zeroCells zero n).toList.length=n*zero.size:=by simp[Builtin.zeroCells]
theorem run_append_grow{T U type e:TypeId}{inf:TypeInfo}{x:V}{ux:Value}{ys es more:List V}{tok:Tok}{base:Option Addr}{cap:Nat}{mm:Store}(hR:Rep Γ B0 G mm w)(hm:∀ b c,m b=some c→mm b=some c)(hT:P.underlying T=some (.slice e))(hU:∀ k,P.underlying U≠some (.int k))(hUs:∃ d,P.underlying U=some d)(hi:P.info? e=some inf)(hok:pM P e=true)
  (hzl:(rF P e).map List.length=some inf.size) (h0:0<inf.size) (hb0:0<inf.bytes) (hs:ku G (.sl es more tok) (.slice base es.length cap)) (hx:ku G x ux) (he:extra m inf.size x=some ys) (hsz:oq inf.size es=true) (hy:∀ y∈ys,y.cells.length=inf.size)
  (hb:Na (es.length+ys.length) inf.bytes) (hgt:cap<es.length+ys.length) :
  ∃ us1 us2 rest nr,(Builtin.append_ #[T,U] type #[.slice base es.length cap,ux]).run P w = .ok (.slice (some ⟨w.heap.size,0,none⟩) (es.length+ys.length) (es.length+ys.length+nr)) (w.drew.alloc (.cells ((us1++us2)++rest).toArray e)) ∧
   kE G (flat es) us1∧kE G (flat ys) us2∧rest.length=nr*inf.size:=by
 obtain⟨us2,f1,f2⟩:=zn (P:=P) (w:=w.drew) (size:=inf.size) hR.drew hm hx he hy;obtain⟨us1,g1,g2⟩:=zn (P:=P) (w:=w.drew) (size:=inf.size) (ys:=es) hR.drew hm hs rfl (G8 hsz);have hl:=PD (P:=P) (w:=w) hx he;obtain⟨d,hd⟩:=hUs;have hnext:=nextslicecap_le hgt;have hdi:∀ k,d ≠ .int k:=fun k hk=>hU k (by rw[hd,hk])
 have hz:∃ z,inf.zero=some z∧z.cells.size=inf.size:=by
  simp only[rF,hi,Option.bind_some,Option.map_map,Option.map_eq_some_iff]at hzl;obtain⟨z,h1,h2⟩:=hzl;exact⟨z,h1,by simpa using h2⟩
 obtain⟨z,hz1,hz2⟩:=hz;have hzv:=Ah (P:=P) (w:=w.drew) hi hz1
 have hbytes:¬ (Builtin.nextslicecap (es.length+ys.length) cap*inf.bytes>2^48):=by
  rcases hb with hb|⟨hb,hb2⟩
  ·have:Builtin.nextslicecap (es.length+ys.length) cap*inf.bytes≤2*(es.length+ys.length)*inf.bytes:=gV _ hnext;rw[Nat.mul_assoc]at this;omega
  ·have:=Jy hgt;rw[hb];omega
 have hzeros:∀ (α:Type) (A B:α),(match d with | .int _=>A|_=>B)=B:=by
  intro α A B
  cases d with
  |int k=>exact(hdi k rfl).elim
  |_=>rfl
 generalize hcap:(Question.appendCap (es.length+ys.length) cap e).cut (w.tape w.drawn (.appendCap (es.length+ys.length) cap e))=nc
 have hnc:es.length+ys.length≤nc:=by
  rw[←hcap];simp[Question.cut]
 refine⟨us1,us2,(Builtin.zeroCells z.cells (nc-(es.length+ys.length))).toList,nc-(es.length+ys.length),?_,g2,f2,by rw[vV,hz2]⟩;have hso:=run_sizeOf (P:=P) (w:=w) (t:=e) (n:=inf.size) (by simp[nZ,hi]);have hti:=run_typeInfo (P:=P) (w:=w) hi;have hti2:=run_typeInfo (P:=P) (w:=w.drew) hi;have hne:¬ (es.length+ys.length≤cap):=by omega
 unfold Builtin.append_;simp only[iM,iD,iE,Sem.run_bind,run_underlying hT,Result.andThen_ok,hso];have hmaxv:IntKind.i64.max=9223372036854775807:=rfl
 have hsmall:es.length+ys.length≤140737500000000:=by
  rcases hb with hb|hb
  ·have:=Nat.le_trans (Nat.le_mul_of_pos_right (es.length+ys.length) hb0) hb;omega
  ·exact hb.2
 have hmx:¬ (((es.length+ys.length:Nat):Int)>IntKind.i64.max):=by rw[hmaxv];omega
 simp only[run_underlying hd,Result.andThen_ok,Sem.run_pure,hzeros,aF,if_false,hl,if_neg hne,Sem.run_bind,hti];rw[if_neg (fun h=>hmx h.1)];simp only[Sem.run_bind,hti,Result.andThen_ok,if_neg hbytes,run_choose_drew,Question.forced,aF,if_false,hcap,hti2,run_askRoom,g1,Bool.not_false,if_true,f1,hzv,Sem.run_pure];simp only[newRow,Sem.run_bind,run_newObj_alloc,Result.andThen_ok,Sem.run_pure];have e1:es.length+ys.length+(nc-(es.length+ys.length))=nc:=by omega
 rw[e1];congr 2;congr 1;apply dC;simp
theorem run_append_fits{T U type e:TypeId}{inf:TypeInfo}{x:V}{ux:Value}{ys:List V}{n cap:Nat}{base:Option Addr}{mm:Store}(hR:Rep Γ B0 G mm w)(hm:∀ b c,m b=some c→mm b=some c)(hT:P.underlying T=some (.slice e))(hU:∀ k,P.underlying U≠some (.int k))(hUs:∃ d,P.underlying U=some d)(hi:P.info? e=some inf)
  (hx:ku G x ux) (he:extra m inf.size x=some ys) (hy:∀ y∈ys,y.cells.length=inf.size) (hle:n+ys.length≤cap) :
  ∃ us2,kE G (flat ys) us2∧∀ w',(match base with|some a=>(storeCells (a.add (n*inf.size)) us2).run P w = .ok () w' | none=>w'=w) →
   (Builtin.append_ #[T,U] type #[.slice base n cap,ux]).run P w = .ok (.slice base (n+ys.length) cap) w':=by
 obtain⟨us2,f1,f2⟩:=zn (P:=P) (w:=w) (size:=inf.size) hR hm hx he hy;have hl:=PD (P:=P) (w:=w) hx he;obtain⟨d,hd⟩:=hUs;have hdi:∀ k,d ≠ .int k:=fun k hk=>hU k (by rw[hd,hk])
 have hzeros:∀ (α:Type) (A B:α),(match d with | .int _=>A|_=>B)=B:=by
  intro α A B
  cases d with
  |int k=>exact(hdi k rfl).elim
  |_=>rfl
 have hso:=run_sizeOf (P:=P) (w:=w) (t:=e) (n:=inf.size) (by simp[nZ,hi]);refine⟨us2,f2,fun w' hw => ?_⟩;unfold Builtin.append_;simp only[iM,iD,iE,Sem.run_bind,run_underlying hT,Result.andThen_ok,hso];simp only[run_underlying hd,Result.andThen_ok,Sem.run_pure,hzeros,aF,if_false,hl,if_pos hle,Sem.run_bind,Bool.not_false,if_true,f1]
 cases base with
 |none=>
  simp only at hw;subst hw;rfl
 |some a=>
  simp only at hw;simp only[Sem.run_bind,hw,Result.andThen_ok,Sem.run_pure]
theorem zd9{c:Call}{e:TypeId}{inf:TypeInfo}{s x:Operand}{T U:TypeId}(hop:o.op = .call c)(hcal:c.callee = .builtin .append)(hargs:c.args.toList=[s,x])(htys:c.argTypes.toList=[T,U])
  (hT:P.underlying T=some (.slice e)) (hU:∀ k,P.underlying U≠some (.int k)) (hUs:∃ d,P.underlying U=some d) (hi:P.info? e=some inf) (h0:0<inf.size) (hb0:0<inf.bytes) (hok:pM P e=true) (hzl:(rF P e).map List.length=some inf.size)
  (hA:After P Γ B0 G mF w o a K Kp next Q) (hs:ku G (ρ s) (a.eval s)) (hx:ku G (ρ x) (a.eval x)) (hD:mQ m mF) (hR:Rep Γ B0 G (m.or mF) w)
  (hE : match ρ s,extra m inf.size (ρ x) with
  | .sl es more tok,some ys => (ys = [] → K (.sl es more tok) m) ∧ (ys ≠ [] → oq inf.size es = true ∧ vM inf.size ys ∧ Na (es.length + ys.length) inf.bytes ∧ match tok with
   | .full=>more=[]∧∀ t,m t=none→K (.sl (es++ys) [] (.tip t 0)) (m.set t (.tip e 0))
   | .zero _=>more=[]∧∀ t,m t=none→K (.sl (es++ys) [] (.tip t 0)) (m.set t (.tip e 0))
   | .tip t v=>more=[]∧es≠[]∧m t=some (.tip e v)∧K (.sl (es++ys) [] (.tip t (v+1))) (m.set t (.tip e (v+1)))
   | .tipz t v z=>more=[]∧z=inf.size∧m t=some (.tip e v)∧K (.sl (es++ys) [] (.tip t (v+1))) (m.set t (.tip e (v+1)))
   | .no=>False
   | .non=>False
   | .own=>False)
  |_,_=>False):o.wp P a w next Q:=by
 have hrun:∀ u w',(Builtin.append_ #[T,U] o.type #[a.eval s,a.eval x]).run P w = .ok u w'→(execOp a.eval o).run P w = .ok (.value u) w':=by
  intro u w' h
  have e1:c.args.map a.eval = #[a.eval s,a.eval x]:=by
   apply dC;simp[hargs]
  have e2:c.argTypes = #[T,U]:=by
   apply dC;simp[htys]
  simp[execOp,hop,resolve,hcal,e1,e2,invoke,builtin,h]
 split at hE
 ·rename_i es more tok ys hsv hxv;rw[hsv]at hs;obtain⟨hE0,hE1⟩:=hE
  have hsl:∃ base cap,a.eval s = .slice base es.length cap∧(base=none→es=[]∧cap=0)∧es.length≤cap:=by
   generalize a.eval s=z at hs
   cases hs with
   |nil h=>exact⟨none,0,rfl,fun _=>⟨rfl,rfl⟩,Nat.le_refl _⟩
   |sl _ _ _ hl _ _=>exact⟨_,_,rfl,(fun h=>by cases h),by omega⟩
  obtain⟨base,cap,hse,hbn,hec⟩:=hsl
  by_cases hys:ys=[]
  ·subst hys;obtain⟨us2,f1,f2⟩:=run_append_fits (P:=P) (T:=T) (U:=U) (type:=o.type) (n:=es.length) (cap:=cap) (base:=base) hR (fun b c=>oC) hT hU hUs hi hx hxv (by simp) (by simpa using hec);obtain rfl:=f1.kN;refine tK (hrun _ w ?_) (hA.next _ _ m G w (Gh.le.refl G) hD hR (Below.refl B0 w) hs (hE0 rfl));rw[hse];have:=f2 w (by cases base<;>simp[storeCells])
   simpa using this
  ·obtain⟨hsz,hel,hbound,hE2⟩:=hE1 hys
   have hpos:0<ys.length:=by cases ys with|nil=>exact(hys rfl).elim|cons _ _=>simp
   have hyc:∀ y∈ys,y.cells.length=inf.size:=fun y hy=>(hel y hy).1
   have hall:∀ y∈es++ys,y.cells.length=inf.size:=by
    intro y hy
    rcases List.mem_append.1 hy with h|h
    ·exact G8 hsz y h
    ·exact hyc y h
   have grow:∀ (t v:Nat),more=[]→cap<es.length+ys.length→((t=w.heap.size∧v=0)∨∃ T0 v0,(m.or mF) t=some (.tip T0 v0)∧v=v0+1)→mF t=none →
     K (.sl (es++ys) [] (.tip t v)) (m.set t (.tip e v))→o.wp P a w next Q:=by
    intro t v hmore hgt ht hmt hK;obtain⟨us1,us2,rest,nr,g1,g2,g3,g4⟩:=run_append_grow (P:=P) (T:=T) (U:=U) (type:=o.type) (base:=base) (cap:=cap) hR (fun b c=>oC) hT hU hUs hi hok hzl h0 hb0 (by rw[←hse];exact hs) hx hxv hsz hyc hbound hgt
    obtain⟨k1,k2⟩:=hR.drew.newRow (us:=us1++us2) (rest:=rest) (T:=e) (fz:=(0,0)) (t:=t) (v:=v) (w':=w.drew.alloc (.cells ((us1++us2)++rest).toArray e)) (by simp) (fun b hb=>Below.heap_alloc _ _ _ hb)
     (by unfold World.alloc;exact Array.getElem?_push_size) (fun o' _ _=>World.frozen?_alloc_new w.drew _ _ _) ht (.inl rfl)
    have hrel:=P9 (t:=t) (v:=v) (es:=es++ys) (us:=us1++us2) (rest:=rest) (nr:=nr) (size:=inf.size) hall h0 (b:=w.heap.size) (by rw[uM];exact(g2.append g3).mono k1)
     ⟨rfl,fun i u hu=>by simpa [Gh.putH,Gh.put] using hu⟩ (by simp[Gh.putH]) g4
    rw[←xK]at k2;rw[show(es++ys).length=es.length+ys.length from aH]at hrel;refine tK (hrun _ _ (by rw[hse];exact g1)) (hA.next _ _ _ _ _ k1 (hD.set _ hmt) k2 (((Below.refl B0 w).drew).alloc hR.base _) hrel hK)
   have push:∀ (t v:Nat),m t=some (.tip e v)→more=[]→(ku G (.sl es more tok) (a.eval s)→∃ us a',base=some a'∧(∀ e∈es++[],e.cells.length=inf.size)∧kE G (flat (es++[])) us∧G.has a' us∧G.H t v=some (a'.block,a'.off+es.length*inf.size,a'.off+cap*inf.size)) →
     K (.sl (es++ys) [] (.tip t (v+1))) (m.set t (.tip e (v+1)))→o.wp P a w next Q:=by
    intro t v hmt hmore hget hE3
    by_cases hfit:es.length+ys.length≤cap
    ·obtain⟨us2,f1,f2⟩:=run_append_fits (P:=P) (T:=T) (U:=U) (type:=o.type) (n:=es.length) (cap:=cap) (base:=base) hR (fun b c=>oC) hT hU hUs hi hx hxv hyc hfit;obtain⟨us,a',rfl,hu,hr,hk,ht'⟩:=hget hs;have hlen2:us2.length=ys.length*inf.size:=by rw[←f1.length,flat_length hyc]
     have hfit2:a'.off+es.length*inf.size+us2.length≤a'.off+cap*inf.size:=by
      have:(es.length+ys.length)*inf.size≤cap*inf.size:=gV _ hfit;rw[Nat.add_mul]at this;omega
     have hmt':=oC (f:=mF) hmt;obtain⟨k1,k2⟩:=hR.push hmt' ht' (us:=us2) hfit2;obtain⟨_,B',E',C',q1,q2,q3,q4,_,q5⟩:=hR.tip t e v hmt';rw[ht']at q1;simp only[Option.some.injEq,Prod.mk.injEq]at q1;obtain⟨rfl,rfl,rfl⟩:=q1
     have hst := run_storeCells_cells (P := P) a'.block (a'.off + es.length * inf.size) us2 0 w (fun j hj => by
      obtain⟨⟨u,hu⟩,_⟩:=q5 (a'.off+es.length*inf.size+0+j) (by omega) (by omega)
      rw [hu]; rfl) (fun j hj => (q5 (a'.off + es.length * inf.size + 0 + j) (by omega) (by omega)).2.1) (Ju (fun c hc => by
       obtain⟨y,hy,hcy⟩:=List.mem_flatMap.1 hc
       exact(hel y hy).2 c hcy) f1)
     rw[←xK]at k2
     refine tK (hrun _ _ (by rw [hse]; exact f2 (w.setCells a'.block (a'.off + es.length * inf.size) us2) (by
      simp only;rw[add_plain hk.1]
      simpa using hst))) (hA.next _ _ _ _ _ k1 (hD.set _ (hD.CG hmt)) k2 (below_setCells q2 _ _ (Below.refl B0 w)) ?_ hE3)
     have hlen3:us.length=es.length*inf.size:=by
      rw[←hr.length,flat_length hu];simp
     have:=ku.sl (G:=G.push t v a'.block (a'.off+es.length*inf.size) (a'.off+cap*inf.size) us2) (es:=es++ys) (more:=[]) (tok:=.tip t (v+1)) (us:=us++us2) (a:=a') (cap:=cap) (s:=inf.size) (by simpa using hall)
      (by
       rw[aS,uM];rw[aS]at hr
       exact(hr.append f1).mono k1) ?_ (by simpa using hfit) h0 ?_
     ·rw[aH]at this;exact this
     ·refine⟨hk.1,fun i u hu => ?_⟩
      by_cases hi2:i<us.length
      ·rw[gZ hi2]at hu;exact k1.K _ _ _ (hk.2 i u hu)
      ·rw[List.getElem?_append_right (by omega)]at hu;have hlt:=(List.getElem?_eq_some_iff.1 hu).1;show(if a'.block=a'.block∧a'.off+es.length*inf.size≤a'.off+i∧a'.off+i<a'.off+es.length*inf.size+us2.length then us2[a'.off+i-(a'.off+es.length*inf.size)]? else G.K a'.block (a'.off+i))=some u;rw[if_pos ⟨rfl,by omega,by omega⟩,←hu];congr 1;omega
     ·show(G.push t v a'.block (a'.off+es.length*inf.size) (a'.off+cap*inf.size) us2).H t (v+1)=_;simp[Gh.push,hlen2,Nat.add_mul,Nat.add_assoc]
    ·exact grow t (v+1) hmore (by omega) (.inr ⟨e,v,oC hmt,rfl⟩) (hD.CG hmt) hE3
   cases tok with
   |no=>exact hE2.elim
   |non=>exact hE2.elim
   |own=>exact hE2.elim
   |full=>
    obtain⟨rfl,hE3⟩:=hE2;have hf:=mX hR.fresh
    have hcap:cap=es.length:=by
     rw[hse]at hs
     cases hs with
     |nil _=>simp
     |sl _ _ _ _ _ ht=>exact ht.1
    exact grow w.heap.size 0 rfl (by omega) (.inl ⟨rfl,rfl⟩) hf.2 (hE3 _ hf.1)
   |zero b=>
    obtain⟨rfl,hE3⟩:=hE2;have hf:=mX hR.fresh
    have hcap:cap=0:=by
     rw[hse]at hs
     cases hs with
     |nil _=>rfl
     |sl _ _ _ _ _ ht=>exact ht
    exact grow w.heap.size 0 rfl (by omega) (.inl ⟨rfl,rfl⟩) hf.2 (hE3 _ hf.1)
   |tip t v=>
    obtain⟨rfl,hne,hmt,hE3⟩:=hE2;refine push t v hmt rfl ?_ hE3;intro h;rw[hse]at h
    cases h with
    |nil h=>exact(hne rfl).elim
    |sl hu hr hk hl h0' ht=>
     rename_i us a' s'
     have hs' : s'=inf.size:=by
      obtain⟨e0,r,rfl⟩:∃ e0 r,es=e0::r:=by cases es with|nil=>exact(hne rfl).elim|cons a b=>exact⟨a,b,rfl⟩
      rw[←hu e0 (by simp),G8 hsz e0 (by simp)]
     subst hs';exact⟨us,a',rfl,hu,hr,hk,ht⟩
   |tipz t v z=>
    obtain⟨rfl,rfl,hmt,hE3⟩:=hE2;refine push t v hmt rfl ?_ hE3;intro h;rw[hse]at h
    cases h with
    |nil h=>cases h
    |sl hu hr hk hl h0' ht=>
     rename_i us a' s';obtain⟨rfl,ht⟩:=ht;exact⟨us,a',rfl,hu,hr,hk,ht⟩
 ·cases hE
end
end Go.Av
