/- Lemmas used by all laws. -/
import Derived.Test.YtdadmhahbeehhaaJa
import Derived.Test.YtdadmhahbeehhaaJb
import Derived.Laws.StructEq
import Derived.Conc.SmallLaws
set_option linter.unusedSimpArgs false
set_option linter.unusedVariables false
set_option linter.unusedSectionVars false
set_option maxRecDepth 100000
namespace Dak
open Go Go.RowKit
variable [Globs]
variable {P : Program} {F0 : FD} {w0 w : World} {L : Lay} {objs objs0 : List AObj} {nid : Nat}
def tinfo (P:Program) (t:TypeId):Option (Option Value × Nat × Nat):=(P.info? t).map fun i=>(i.zero,i.size,i.bytes)
def placesOf (place:Nat->Option (Nat × Nat)) (ps:List (Nat × Operand)):Option (List (Nat × Nat × Operand)):=ps.mapM (fun p=>(place p.1).map fun q=>(q.1,q.2,p.2))
def flatInts (P:Program):Nat->List Field->Bool
 | _,[]=>true
 | k, f :: fs => f.name != "_" && f.offset == k && (match P.underlying f.type with | some (.int _) => true | _ => false) && flatInts P (k + 1) fs
theorem isNil_ok (g:Good F0 w0 w L objs) (hsub:Sub objs0 objs) {t:TypeId} {sl:Bool} (hu:(sl=false/\∃ e,P.underlying t=some (.pointer e)) \/ (sl=true/\∃ e,P.underlying t=some (.slice e))) {op:BinOp} (hop:op = .eql \/ op = .neq)
 {ev:Operand->AV} {ρ : Operand->Value} (he:∀ x,VR w L objs (ev x) (ρ x)) {x y:Operand} {r:AV} {no:Option AObj} (h:qop objs0 ev nid (.isNil sl (op == .neq) x y)=some (r,no)) :
 Does P (do eqGuard op t x y (ρ x) (ρ y);pure (.value (<-binOp op t (ρ x) (ρ y)))) F0 w0 w L objs nid r no:=by
 have hx:=he x
 have hy:=he y
 have fin:∀ (b:Bool),(eqGuard op t x y (ρ x) (ρ y)).run P w = .ok () w->(Op.equal t (ρ x) (ρ y)).run P w = .ok b w->(∀ op':BinOp,op' = .eql \/ op' = .neq->(binOp op' t (ρ x) (ρ y))=(if op' = .eql then (do pure (.bool (<-Op.equal t (ρ x) (ρ y)))) else (do pure (.bool (!(<-Op.equal t (ρ x) (ρ y))))))) ->
  (r = .val (.bool (b != (op == .neq))) \/ r = .anyB)->no=none->Does P (do eqGuard op t x y (ρ x) (ρ y);pure (.value (<-binOp op t (ρ x) (ρ y)))) F0 w0 w L objs nid r no:=by
  intro b hg heq hb hr hno
  subst hno
  have hrun:(binOp op t (ρ x) (ρ y)).run P w = .ok (.bool (b != (op == .neq))) w:=by
   rw [hb op hop]
   rcases hop with rfl | rfl
   ·cases b <;> simp [heq] <;> rfl
   ·cases b <;> simp [heq] <;> rfl
  refine .pure g (v:=.bool (b != (op == .neq))) (by simp [hg,hrun]) ?_
  rcases hr with rfl | rfl
  ·exact .tree (.val _)
  ·exact .tree (.anyB _)
 cases sl with
 | false =>
  have hu':∃ e,P.underlying t=some (.pointer e):=by rcases hu with ⟨_,h⟩ | ⟨h,_⟩;exact h;cases h
  obtain ⟨e,hu⟩:=hu'
  simp only [qop] at h
  split at h
  rotate_left
  ·cases h
  rename_i hey
  rw [hey] at hy
  have ey:=hy.val_inv
  have hb:∀ p,ρ x = .pointer p->∀ op':BinOp,op' = .eql \/ op' = .neq->(binOp op' t (ρ x) (ρ y))=(if op' = .eql then (do pure (.bool (<-Op.equal t (ρ x) (ρ y)))) else (do pure (.bool (!(<-Op.equal t (ρ x) (ρ y)))))):=by
   intro p hp op' h'
   rw [hp,ey]
   rcases h' with rfl | rfl <;> simp [binOp]
  have hg:∀ p,ρ x = .pointer p->(eqGuard op t x y (ρ x) (ρ y)).run P w = .ok () w:=by
   intro p hp;rw [hp,ey];unfold eqGuard;split <;> rfl
  have heq:∀ p,ρ x = .pointer p->(Op.equal t (ρ x) (ρ y)).run P w = .ok p.isNone w:=by
   intro p hp
   rw [hp,ey,Op.equal,show Op.maxDepth=9999+1 from rfl,Op.equalIn]
   cases p <;> simp [run_underlying hu]
  generalize ev x=X at *
  cases X with
  | val v =>
   split at h
   ·rename_i hv
    simp only [AV.val.injEq] at hv;subst hv
    have ex:=hx.val_inv
    simp only [Option.some.injEq,Prod.mk.injEq] at h
    obtain ⟨rfl,rfl⟩:=h
    refine fin true (hg _ ex) (heq _ ex) (hb _ ex) (.inl ?_) rfl
    rcases hop with rfl | rfl <;> rfl
   all_goals first | (cases h;done) | (rename_i hv;cases hv;done)
  | ptr cs =>
   have hp:=hx.ptr_inv
   simp only [Option.some.injEq,Prod.mk.injEq] at h
   obtain ⟨rfl,rfl⟩:=h
   generalize ρ x=V at *
   cases hp with
   | ptr _ b o us hF hb' hc h1 hr =>
    refine fin false (hg _ rfl) (heq _ rfl) (hb _ rfl) (.inl ?_) rfl
    rcases hop with rfl | rfl <;> rfl
  | ref id gg el c =>
   simp only at h
   split at h
   ·rename_i g' s' e' xs ho
    simp only [Option.ite_none_right_eq_some,Option.some.injEq,Prod.mk.injEq] at h
    obtain ⟨rfl,rfl,rfl⟩:=h
    have hl:=live_of hsub ho
    obtain ⟨b,o,n,hbk,ex⟩:=hx.ref_inv hl
    refine fin false (hg _ ex) (heq _ ex) (hb _ ex) (.inl ?_) rfl
    rcases hop with rfl | rfl <;> rfl
   ·cases h
  | _=>simp at h
 | true =>
  have hu':∃ e,P.underlying t=some (.slice e):=by rcases hu with ⟨h,_⟩ | ⟨_,h⟩;cases h;exact h
  obtain ⟨e,hu⟩:=hu'
  simp only [qop] at h
  split at h
  rotate_left
  ·cases h
  rename_i yn yc hey
  rw [hey] at hy
  have ey:=hy.val_inv
  have hb:∀ a n c,ρ x = .slice a n c->∀ op':BinOp,op' = .eql \/ op' = .neq->(binOp op' t (ρ x) (ρ y))=(if op' = .eql then (do pure (.bool (<-Op.equal t (ρ x) (ρ y)))) else (do pure (.bool (!(<-Op.equal t (ρ x) (ρ y)))))):=by
   intro a n c hp op' h'
   rw [hp,ey]
   rcases h' with rfl | rfl <;> simp [binOp]
  have hg:∀ a n c,ρ x = .slice a n c->(eqGuard op t x y (ρ x) (ρ y)).run P w = .ok () w:=by
   intro a n c hp;rw [hp,ey];unfold eqGuard;split <;> rfl
  have heq:∀ a n c,ρ x = .slice a n c->(Op.equal t (ρ x) (ρ y)).run P w = .ok a.isNone w:=by
   intro a n c hp
   rw [hp,ey,Op.equal,show Op.maxDepth=9999+1 from rfl,Op.equalIn]
   cases a <;> simp [run_underlying hu]
  have any:∀ a n c,ρ x = .slice a n c->r = .anyB->no=none->Does P (do eqGuard op t x y (ρ x) (ρ y);pure (.value (<-binOp op t (ρ x) (ρ y)))) F0 w0 w L objs nid r no :=
   fun a n c ex hr hno=>fin a.isNone (hg _ _ _ ex) (heq _ _ _ ex) (hb _ _ _ ex) (.inr hr) hno
  generalize ev x=X at *
  cases X with
  | val v =>
   split at h
   ·rename_i hv
    simp only [AV.val.injEq] at hv;subst hv
    have ex:=hx.val_inv
    simp only [Option.some.injEq,Prod.mk.injEq] at h
    obtain ⟨rfl,rfl⟩:=h
    refine fin true (hg _ _ _ ex) (heq _ _ _ ex) (hb _ _ _ ex) (.inl ?_) rfl
    rcases hop with rfl | rfl <;> rfl
   all_goals first | (cases h;done) | (rename_i hv;cases hv;done)
  | own id gg off len =>
   simp only at h
   split at h
   ·rename_i g' s' e' xs ho
    simp only [Option.ite_none_right_eq_some] at h
    obtain ⟨rfl,h⟩:=h
    have hl:=live_of hsub ho
    rcases hx.own_inv hl with ⟨rfl,ad,ex⟩ | ⟨b,o,n,cap,hbk,ex,hc,hm,hr⟩
    ·simp only [Nat.lt_irrefl,if_false,Option.some.injEq,Prod.mk.injEq] at h
     exact any _ _ _ ex h.1.symm h.2.symm
    ·split at h
     ·simp only [Option.some.injEq,Prod.mk.injEq] at h
      obtain ⟨rfl,rfl⟩:=h
      refine fin false (hg _ _ _ ex) (heq _ _ _ ex) (hb _ _ _ ex) (.inl ?_) rfl
      rcases hop with rfl | rfl <;> rfl
     ·simp only [Option.some.injEq,Prod.mk.injEq] at h
      exact any _ _ _ ex h.1.symm h.2.symm
   ·cases h
  | list s xs =>
   have hp:=hx.list_inv
   generalize ρ x=V at *
   cases hp with
   | nolist _ ad cap hm =>
    simp only [List.length_nil,Nat.lt_irrefl,if_false,Option.some.injEq,Prod.mk.injEq] at h
    exact any _ _ _ rfl h.1.symm h.2.symm
   | list _ _ b o cap us hF hb' hn hm hsz hc h1 hr =>
    simp only at h
    split at h
    ·simp only [Option.some.injEq,Prod.mk.injEq] at h
     obtain ⟨rfl,rfl⟩:=h
     refine fin false (hg _ _ _ rfl) (heq _ _ _ rfl) (hb _ _ _ rfl) (.inl ?_) rfl
     rcases hop with rfl | rfl <;> rfl
    ·simp only [Option.some.injEq,Prod.mk.injEq] at h
     exact any _ _ _ rfl h.1.symm h.2.symm
  | emp =>
   obtain ⟨ad,ex⟩:=hx.emp_inv
   simp only [Option.some.injEq,Prod.mk.injEq] at h
   exact any _ _ _ ex h.1.symm h.2.symm
  | _=>simp at h
def keyT (P:Program) (t:TypeId):Option Nat :=
 match P.underlying t with
 | some (.int .i64)=>some 0
 | some .string=>some 1
 | some (.array n e) =>
  if tsize P e=some 1 then
   match P.underlying e with
   | some (.int .i64)=>some (2+2*n)
   | some (.int .u64)=>some (3+2*n)
   | _=>none
  else none
 | _=>none
def comp1 (P:Program) (o:Oper):Option COp :=
 match o.op with
 | .move x=>some (.mov x)
 | .assign x=>some (.mov x)
 | .pick c a b=>some (.pick c a b)
 | .alloc e =>
  match tinfo P e with
  | some (some z,_,_)=>if (ofV z).fits=true/\e<mapT then some (.alloc e (ofV z)) else none
  | _=>none
 | .box e x=>if e<mapT then some (.box e x) else none
 | .load t x =>
  match tagg P t,tsize P t with
  | some ag,some n=>some (.load ag n x)
  | _,_=>none
 | .nilCheck x=>some (.nilCheck x)
 | .binOp op t x y _ =>
  match P.underlying t with
  | some (.int _)=>some (.ibin op x y)
  | some .bool=>some (.bbin op x y)
  | some (.array n e) =>
   match P.underlying e with
   | some (.int _)=>if P.eqGuardType P.depth t=false/\tsize P e=some 1/\(op = .eql \/ op = .neq) then some (.aeq (op == .neq) n x y) else none
   | _=>none
  | some (.struct fs) =>
   if P.eqGuardType P.depth t=false/\P.stoodInHeld t=false/\(op = .eql \/ op = .neq)/\flatInts P 0 fs.toList=true then some (.aeq (op == .neq) fs.size x y) else none
  | some (.pointer _)=>if op = .eql \/ op = .neq then some (.isNil false (op == .neq) x y) else none
  | some (.slice _)=>if op = .eql \/ op = .neq then some (.isNil true (op == .neq) x y) else none
  | _=>none
 | .unOp .neg _ x=>some (.neg x)
 | .unOp .not _ x=>some (.lnot x)
 | .convert src dst x =>
  match P.underlying src,P.underlying dst with
  | some _,some (.int k)=>some (.conv k x)
  | some (.slice e),some .string =>
   match P.underlying e with
   | some (.int .u8)=>some (.str x)
   | _=>none
  | _,_=>none
 | .fieldAddr s x f =>
  match P.underlying s with
  | some (.struct fs) =>
   match fs[f]? with
   | some fd=>match tsize P fd.type with
    | some (_+1)=>some (.fieldAddr fd.offset x)
    | _=>none
   | none=>none
  | _=>none
 | .field s x f =>
  match P.underlying s with
  | some (.struct fs) =>
   match fs[f]? with
   | some fd=>match tagg P fd.type,tsize P fd.type with
    | some ag,some n=>some (.field ag fd.offset n x)
    | _,_=>none
   | none=>none
  | _=>none
 | .indexAddr t x i =>
  match P.underlying t with
  | some (.slice e)=>(tsize P e).map fun n=>.idxS n x i
  | some (.array len e)=>(tsize P e).map fun n=>.idxA len n x i
  | _=>none
 | .index t x i =>
  match P.underlying t with
  | some (.array len e)=>match tagg P e,tsize P e with
   | some ag,some n=>some (.idxV ag len n x i)
   | _,_=>none
  | _=>none
 | .extract x i=>some (.extract x i)
 | .slice t x lo hi none =>
  match P.underlying t with
  | some (.slice e)=>(tsize P e).map fun n=>.slice n x lo hi
  | some (.array n e)=>if tsize P e=some 1 then some (.sliceA n x lo hi) else none
  | _=>none
 | .slice t x lo (some hi) (some mx) =>
  match P.underlying t with
  | some (.slice e)=>(tsize P e).map fun n=>.slice3 n x lo hi mx
  | _=>none
 | .makeSlice t l c =>
  match P.underlying t with
  | some (.slice e)=>match tinfo P e with
   | some (some z,size,bytes)=>if (ofV z).fits=true/\0<size/\e<mapT then some (.mkslice e size bytes (ofV z) l c) else none
   | _=>none
  | _=>none
 | .build t parts =>
  match tinfo P t with
  | some (some z,_,_) =>
   if z.cells.all (·.oneCell') then
    match P.underlying t with
    | some (.struct fs)=>(placesOf (fun i=>(fs[i]?).bind fun f=>(tsize P f.type).map fun n=>(f.offset,n)) parts.toList).bind fun ps=>if fs.all (fun f=>(tsize P f.type).isSome) then some (.build (z.cells.toList.map .val) ps) else none
    | some (.array _ e)=>(tsize P e).bind fun n=>(placesOf (fun i=>some (i*n,n)) parts.toList).map fun ps=>.build (z.cells.toList.map .val) ps
    | _=>none
   else none
  | _=>none
 | .buildSlice t len parts =>
  match P.underlying t with
  | some (.slice e)=>match tinfo P e with
   | some (some z,size,_)=>if 0<size/\parts.toList.map (·.1)=List.range len/\e<mapT then some (.bslice (litE z (parts.toList.map (·.2)) e) size (parts.toList.map (·.2))) else none
   | _=>none
  | _=>none
 | .makeFunc fn first cap=>if first.size=0 then (match fn with
  | .via ..=>none
  | fn=>some (.mkfunc fn cap.toList)) else if cap.size=0 then (match fn with
  | .func f=>some (.mkfunc (.via 0 #[] f false) first.toList)
  | _=>none) else none
 | .store t x v=>(tsize P t).map fun n=>.store n x v
 | .range t x =>
  match P.underlying t with
  | some (.map kt _)=>(keyT P kt).map fun c=>.rng c x
  | _=>none
 | .next x b=>if b=true then none else some (.nxt x)
 | .entry x=>some (.ent x)
 | .makeChan t s =>
  match P.underlying t with
  | some (.chan _ e)=>(P.info? e).map fun _=>.mkch s
  | _=>none
 | .makeMap t none =>
  match P.underlying t with
  | some (.map kt _)=>(keyT P kt).map fun c=>.mnew (mapT+c)
  | _=>none
 | .lookup t m k ok =>
  match P.underlying t with
  | some (.map kt et) =>
   match tinfo P et with
   | some (some z,_,_)=>(keyT P kt).map fun c=>.mget c ok z m k
   | _=>none
  | _=>none
 | .mapUpdate t m k v =>
  match P.underlying t with
  | some (.map kt _)=>(keyT P kt).map fun c=>.mset c m k v
  | _=>none
 | .insert t m k v =>
  match P.underlying t with
  | some (.map kt _)=>(keyT P kt).map fun c=>.mset c m k v
  | _=>none
 | .call c =>
  match c.callee with
  | .builtin .append =>
   match c.args.toList,c.argTypes.toList with
   | [s,x],[t,t'] =>
    match P.underlying t with
    | some (.slice e)=>match tinfo P e with
     | some (some z,size,bytes)=>if z.cells.size=size/\0<size/\0<bytes/\e<mapT then
      match P.underlying t' with
      | some (.slice _)=>some (.append e size bytes s x)
      | some (.int _)=>if (ofV z).fits=true/\(ofV z).cells.length=size then some (.appendZ e size bytes (ofV z) s x) else none
      | _=>none
      else none
     | _=>none
    | _=>none
   | _,_=>none
  | .builtin .copy =>
   match c.args.toList,c.argTypes.toList with
   | [x,y],[t,_] =>
    match P.underlying t with
    | some (.slice e)=>(tsize P e).map fun n=>.copy n x y
    | _=>none
   | _,_=>none
  | .builtin .len =>
   match c.args.toList,c.argTypes.toList with
   | [x],[t] =>
    match P.underlying t with
    | some (.slice _)=>some (.len x)
    | some (.array n _)=>some (.lenA n)
    | some (.map kt _)=>(keyT P kt).map fun c=>.mlen c x
    | _=>none
   | _,_=>none
  | .builtin .min =>
   match c.args.toList with
   | [x,y]=>some (.imin x y)
   | _=>none
  | .builtin .max =>
   match c.args.toList with
   | [x,y]=>some (.imax x y)
   | _=>none
  | .value f=>some (.call f c.args.toList)
  | _=>none
 | _=>none
def AV.kn (objs:List AObj):AV->Bool
 | .own id g _ _=>match objs[id]? with
  | some (.arr g' _ _ _)=>g' == g
  | _=>false
 | .ref id g _ _=>match objs[id]? with
  | some (.arr g' _ _ _)=>g' == g
  | _=>false
 | _=>true
theorem kn_ok (hsub:Sub objs0 objs) {x:AV} (h:x.kn objs0=true):Known objs x:=by
 rintro id g (⟨o,l,rfl⟩ | ⟨o,l,rfl⟩)
 all_goals
  simp only [AV.kn] at h
  split at h
  ·rename_i g' s e xs ho
   have:g'=g:=by simpa using h
   subst this
   exact ⟨_,_,_,hsub _ _ _ _ _ ho⟩
  ·cases h
def COp.stores:COp->List Operand
 | .box _ x=>[x]
 | .build _ ps=>ps.map (·.2.2)
 | .bslice _ _ ps=>ps
 | .store _ _ v=>[v]
 | _=>[]
def qstep (objs:List AObj) (ev:Operand->AV) (nid:Nat) (c:COp):Option (AV × Option AObj) :=
 if c.stores.all (fun x=>(ev x).kn objs) then qop objs ev nid c else none
theorem mapM_get {α β : Type} (f : α->Option β):∀ (l:List α) (r:List β),l.mapM f=some r->l.length=r.length/\∀ (k:Nat) (a : α),l[k]? = some a->∃ b,f a=some b/\r[k]? = some b
 | [],r,h=>by simp at h;subst h;exact ⟨rfl,fun k a h=>by simp at h⟩
 | x::l,r,h=>by
  simp only [List.mapM_cons,Option.bind_eq_bind,Option.bind_eq_some_iff,Option.pure_def,Option.some.injEq] at h
  obtain ⟨y,hy,ys,hys,rfl⟩:=h
  obtain ⟨h1,h2⟩:=mapM_get f l ys hys
  refine ⟨by simp [h1],fun k a ha=>?_⟩
  cases k with
  | zero=>simp at ha;subst ha;exact ⟨y,hy,rfl⟩
  | succ k=>simpa using h2 k a (by simpa using ha)
theorem mapM_sem {α β : Type} (f : α->Sem β) (k : α->Option β) (w:World) (hf:∀ a b,k a=some b->(f a).run P w = .ok b w):∀ (l:List α),(∀ a ∈ l,(k a).isSome) ->
 ∃ r:List β,(l.mapM f).run P w = .ok r w/\∀ i:Nat,r[i]? = (l[i]?).bind k
 | [],_=>⟨[],rfl,fun i=>by simp⟩
 | a::l,h=>by
  obtain ⟨r,hr,hi⟩:=mapM_sem f k w hf l (fun x hx=>h x (by simp [hx]))
  obtain ⟨b,hb⟩:=Option.isSome_iff_exists.1 (h a (by simp))
  refine ⟨b::r,by simp [hf a b hb,hr],fun i=>?_⟩
  cases i with
  | zero=>simp [hb]
  | succ i=>simpa using hi i
theorem run_part_int' {e:TypeId} {k:IntKind} (he:P.underlying e=some (.int k)) (cs:Array Value) (off:Nat) {v:Value} (h:cs[off]? = some v) (w:World):(part e cs off).run P w = .ok v w:=by
 simp [part,isAgg,run_underlying he,h]
theorem ints_get:∀ (cs:List AV) (l:List (IntKind × Int)),cs.mapM asI=some l->cs.length=l.length/\∀ (i:Nat) (k:IntKind) (n:Int),l[i]? = some (k,n)->cs[i]? = some (AV.val (.int k n))
 | [],l,h=>by simp at h;subst h;exact ⟨rfl,fun i k n h=>by simp at h⟩
 | c::cs,l,h=>by
  simp only [List.mapM_cons,Option.bind_eq_bind,Option.bind_eq_some_iff,Option.pure_def,Option.some.injEq] at h
  obtain ⟨⟨k,n⟩,hc,l',hl,rfl⟩:=h
  obtain ⟨h1,h2⟩:=ints_get cs l' hl
  refine ⟨by simp [h1],fun i k' n' hi=>?_⟩
  cases i with
  | zero =>
   simp at hi;obtain ⟨rfl,rfl⟩:=hi
   cases c with
   | val u=>cases u <;> simp [asI] at hc;obtain ⟨rfl,rfl⟩:=hc;rfl
   | _=>simp [asI] at hc
  | succ i=>simpa using h2 i k' n' (by simpa using hi)
theorem aeq_inv {ev:Operand->AV} {neg:Bool} {n:Nat} {x y:Operand} {r:AV} {no:Option AObj} (h:qop objs0 ev nid (.aeq neg n x y)=some (r,no)) :
 ∃ cs ds A B,ev x = .agg cs/\ev y = .agg ds/\cs.mapM asI=some A/\ds.mapM asI=some B/\A.map (·.1)=B.map (·.1)/\A.length=n/\r = .val (.bool (if neg then !decide (A.map (·.2)=B.map (·.2)) else decide (A.map (·.2)=B.map (·.2))))/\no=none:=by
 simp only [qop] at h
 generalize ev x=X at *
 generalize ev y=Y at *
 split at h
 ·rename_i cs ds
  simp only [Option.bind_eq_bind,Option.bind_eq_some_iff,Option.ite_none_right_eq_some,Option.some.injEq,Prod.mk.injEq] at h
  obtain ⟨A,hA,B,hB,⟨hk,hn⟩,rfl,rfl⟩:=h
  exact ⟨cs,ds,A,B,rfl,rfl,hA,hB,hk,hn,rfl,rfl⟩
 ·cases h
theorem cell_int {cs:List AV} {vs:Array Value} (hl:vs.size=cs.length) (hr:∀ i (h:i<cs.length) (h2:i<vs.size),VR w L objs cs[i] vs[i]) {i:Nat} {k:IntKind} {m:Int} (h:cs[i]? = some (.val (.int k m))):vs[i]? = some (.int k m):=by
 obtain ⟨h1,h2⟩:=List.getElem?_eq_some_iff.1 h
 have:=hr i h1 (by omega)
 rw [h2] at this
 rw [Array.getElem?_eq_getElem (by omega),this.val_inv]
theorem equalIn_array (d:Nat) (t e:TypeId) (k0:IntKind) (n:Nat) (xs ys:Array Value) (w:World) (ht:P.underlying t=some (.array n e)) (he:P.underlying e=some (.int k0)) (hs:tsize P e=some 1)
 (A B:List (IntKind × Int)) (hA:A.length=n) (hk:A.map (·.1)=B.map (·.1)) (hx:∀ (i:Nat) (k:IntKind) (m:Int),A[i]? = some (k,m)->xs[i]? = some (Value.int k m)) (hy:∀ (i:Nat) (k:IntKind) (m:Int),B[i]? = some (k,m)->ys[i]? = some (Value.int k m)) :
 (Op.equalIn (d+2) t (.agg xs) (.agg ys)).run P w = .ok (decide (A.map (·.2)=B.map (·.2))) w:=by
 have hB:B.length=n:=by have:=congrArg List.length hk;simpa [hA] using this.symm
 rw [Op.equalIn]
 simp only [Sem.run_bind,run_underlying ht,Result.andThen_ok,run_sizeOf hs]
 simp only [Std.Legacy.Range.forIn_eq_forIn_range']
 have loop : ∀ (m s : Nat), s + m = n -> (forIn (List.range' s m) ((none : Option Bool), ()) fun i (__s : Option Bool × Unit) => do
           let __do_lift <-part e xs (i*1)
           let __do_lift_1 <-part e ys (i*1)
           let __do_lift <-Op.equalIn (d+1) e __do_lift __do_lift_1
           if (!__do_lift)=true then (pure (ForInStep.done (some false,())):Sem (ForInStep (Option Bool × Unit))) else pure (ForInStep.yield (none,()))).run P w =
  .ok (if (A.drop s).map (·.2)=(B.drop s).map (·.2) then (none,()) else (some false,())) w:=by
  intro m
  induction m with
  | zero =>
   intro s hs'
   rw [List.drop_eq_nil_of_le (by omega),List.drop_eq_nil_of_le (by omega)]
   simp
  | succ m ih =>
   intro s hs'
   have hsA:s<A.length:=by omega
   have hsB:s<B.length:=by omega
   have hkk:A[s].1=B[s].1:=by
    have h1:(A.map (·.1))[s]? = (B.map (·.1))[s]?:=by rw [hk]
    rw [List.getElem?_map,List.getElem?_map,List.getElem?_eq_getElem hsA,List.getElem?_eq_getElem hsB] at h1
    simpa using h1
   have ex:xs[s]? = some (Value.int A[s].1 A[s].2):=hx s _ _ (List.getElem?_eq_getElem hsA)
   have ey:ys[s]? = some (Value.int B[s].1 B[s].2):=hy s _ _ (List.getElem?_eq_getElem hsB)
   rw [<-hkk] at ey
   have p1:=run_part_int' (P:=P) he xs (s*1) (by rw [Nat.mul_one];exact ex) w
   have p2:=run_part_int' (P:=P) he ys (s*1) (by rw [Nat.mul_one];exact ey) w
   have q:(Op.equalIn (d+1) e (.int A[s].1 A[s].2) (.int A[s].1 B[s].2)).run P w = .ok (A[s].2 == B[s].2) w:=by
    simp [Op.equalIn,run_underlying he]
   rw [List.range'_succ,List.forIn_cons]
   simp only [Sem.run_bind,p1,p2,q,Result.andThen_ok,Sem.run_ite,Sem.run_pure]
   rw [List.drop_eq_getElem_cons hsA,List.drop_eq_getElem_cons hsB]
   simp only [List.map_cons,List.cons.injEq]
   by_cases hq:A[s].2=B[s].2
   ·simp only [hq,beq_self_eq_true,Bool.not_true,Bool.false_eq_true,if_false,Result.andThen_ok,true_and]
    exact ih (s+1) (by omega)
   ·have:(A[s].2 == B[s].2)=false:=by simpa using hq
    simp only [this,Bool.not_false,if_true,Result.andThen_ok,hq,false_and,if_false,Sem.run_pure]
 have h0:=loop n 0 (by omega)
 have esz:(⟨0,n,1,by decide⟩:Std.Legacy.Range).size=n:=by simp [Std.Legacy.Range.size]
 rw [esz,h0]
 simp only [List.drop_zero,Result.andThen_ok]
 by_cases hq:A.map (·.2)=B.map (·.2) <;> simp [hq]
theorem keys_int {kt:TypeId} (h:P.underlying kt=some (.int .i64)):KeyTK P kt 0 where
 eq a b ha hb w:=by
  cases a <;> simp [MK.ok] at ha
  cases b <;> simp [MK.ok] at hb
  rename_i m n
  rw [Op.equal,show Op.maxDepth=9999+1 from rfl]
  simp only [MK.v]
  rw [run_equalIn_int w 9999 kt _ _ m n h]
  by_cases e:m=n <;> simp [e]
 chk a ha b w:=by
  cases a <;> simp [MK.ok] at ha
  rw [Instr.checkKey];simp [run_underlying h,MK.v]
 same a ha:=by
  cases a <;> simp [MK.ok] at ha
  simp [Instr.sameBits,MK.v]
 kind:=⟨_,h,fun a b ha hb=>by
  cases a <;> simp [MK.ok] at ha
  cases b <;> simp [MK.ok] at hb
  rename_i m n
  refine .inr ?_
  simp only [MK.v,Instr.sameNow,if_true]
  by_cases e:m=n <;> simp [e]⟩
theorem bytes_beq' (a b:ByteArray):(a == b)=decide (a=b):=by
 obtain ⟨x⟩:=a
 obtain ⟨y⟩:=b
 show (x == y)=_
 by_cases e:x=y <;> simp [e]
theorem keys_str {kt:TypeId} (h:P.underlying kt=some .string):KeyTK P kt 1 where
 eq a b ha hb w:=by
  cases a <;> simp [MK.ok] at ha
  cases b <;> simp [MK.ok] at hb
  rename_i m n
  rw [Op.equal,show Op.maxDepth=9999+1 from rfl,Op.equalIn]
  simp only [MK.v]
  by_cases e:m=n <;> simp [e,run_underlying h,bytes_beq']
 chk a ha b w:=by
  cases a <;> simp [MK.ok] at ha
  rw [Instr.checkKey];simp [run_underlying h,MK.v]
 same a ha:=by
  cases a <;> simp [MK.ok] at ha
  simp [Instr.sameBits,MK.v,bytes_beq']
 kind:=⟨_,h,fun a b ha hb=>by
  cases a <;> simp [MK.ok] at ha
  cases b <;> simp [MK.ok] at hb
  rename_i m n
  refine .inr ?_
  simp only [MK.v,Instr.sameNow,bytes_beq']
  by_cases e:m=n <;> simp [e]⟩
theorem keys_arr {c:Nat} {kt e:TypeId} {n:Nat} (h:P.underlying kt=some (.array n e)) (he:P.underlying e=some (.int (keyK c))) (hs:tsize P e=some 1) (h2:2<=c) (hn:(c-2) / 2=n):KeyTK P kt c where
 eq a b ha hb w:=by
  cases a with
  | a l =>
   cases b with
   | a l' =>
    have hl:l.length=n:=by rw [<-hn];exact ha.2
    have hl':l'.length=n:=by rw [<-hn];exact hb.2
    have:=equalIn_array (P:=P) 9998 kt e (keyK c) n (l.map (Value.int (keyK c))).toArray (l'.map (Value.int (keyK c))).toArray w h he hs (l.map fun x=>(keyK c,x)) (l'.map fun x=>(keyK c,x)) (by simp [hl]) (by simp only [List.map_map,Function.comp_def,List.map_const',hl,hl']) (fun i k m hi=>by
     rw [List.getElem?_map] at hi
     obtain ⟨x,hx,hx2⟩:=Option.map_eq_some_iff.1 hi
     simp only [Prod.mk.injEq] at hx2
     obtain ⟨rfl,rfl⟩:=hx2
     simp [hx]) (fun i k m hi=>by
     rw [List.getElem?_map] at hi
     obtain ⟨x,hx,hx2⟩:=Option.map_eq_some_iff.1 hi
     simp only [Prod.mk.injEq] at hx2
     obtain ⟨rfl,rfl⟩:=hx2
     simp [hx])
    rw [Op.equal]
    simp only [MK.v]
    have e2:decide ((l.map fun x=>(keyK c,x)).map (·.2)=(l'.map fun x=>(keyK c,x)).map (·.2))=decide (MK.a l=MK.a l'):=by
     simp [Function.comp_def]
    rw [e2] at this
    exact this
   | _=>simp [MK.ok] at hb;omega
  | _=>simp [MK.ok] at ha;omega
 chk a ha b w:=by
  cases a with
  | a l =>
   have hl:l.length=n:=by rw [<-hn];exact ha.2
   rw [Instr.checkKey]
   simp only [Sem.run_bind,run_underlying h,Result.andThen_ok,MK.v]
   simp only [Std.Legacy.Range.forIn_eq_forIn_range']
   have p0:∀ i,i<n->(part e (l.map (Value.int (keyK c))).toArray (i*1)).run P w = .ok (.int (keyK c) (l.getD i 0)) w:=fun i hi=>by
    refine run_part_int' he _ _ ?_ w
    rw [Nat.mul_one,List.getElem?_toArray,List.getElem?_map,List.getElem?_eq_getElem (by omega),List.getD_eq_getElem?_getD,List.getElem?_eq_getElem (by omega)]
    rfl
   have c0:∀ x:Int,(Instr.checkKey b 9999 e (.int (keyK c) x)).run P w = .ok () w:=fun x=>by rw [Instr.checkKey];simp [run_underlying he]
   have loop:∀ (m s:Nat),s+m=n->(forIn (List.range' s m) PUnit.unit fun i (_:PUnit)=>do
    let __do_lift <-Go.sizeOf e
    let __do_lift <-part e (l.map (Value.int (keyK c))).toArray (i*__do_lift)
    Instr.checkKey b 9999 e __do_lift
    pure (ForInStep.yield PUnit.unit):Sem PUnit).run P w = .ok PUnit.unit w:=by
    intro m
    induction m with
    | zero=>intro s _;simp
    | succ m ih =>
     intro s hs'
     rw [List.range'_succ]
     simp only [List.forIn_cons,Sem.run_bind,run_sizeOf hs,Result.andThen_ok,p0 s (by omega),c0,Sem.run_pure]
     exact ih (s+1) (by omega)
   have:=loop n 0 (by omega)
   simp at this ⊢
   rw [this]
   rfl
  | _=>simp [MK.ok] at ha;omega
 same a ha:=by
  cases a with
  | a l =>
   have z:∀ (l:List Int),((l.map (Value.int (keyK c))).zip (l.map (Value.int (keyK c)))).all (fun p=>Instr.sameBits 9999 p.1 p.2)=true:=by
    intro l
    induction l with
    | nil=>rfl
    | cons x l ih=>simp only [List.map_cons,List.zip_cons_cons,List.all_cons,ih,Bool.and_true];simp [Instr.sameBits]
   have:=z l
   simp only [MK.v,Instr.sameBits]
   simpa using this
  | _=>simp [MK.ok] at ha;omega
 kind:=⟨_,h,fun a b _ _=>.inl (by cases a <;> cases b <;> rfl)⟩
theorem keys_of {kt:TypeId} {c:Nat} (h:keyT P kt=some c):KeyTK P kt c:=by
 unfold keyT at h
 split at h
 ·rename_i hu;cases h;exact keys_int hu
 ·rename_i hu;cases h;exact keys_str hu
 ·rename_i n e hu
  simp only [Option.ite_none_right_eq_some] at h
  obtain ⟨hs,h⟩:=h
  split at h
  ·rename_i he;cases h;exact keys_arr hu (by rw [he];simp [keyK]) hs (by omega) (by omega)
  ·rename_i he;cases h;exact keys_arr hu (by rw [he];simp [keyK,Nat.add_mod]) hs (by omega) (by omega)
  ·cases h
 ·cases h
theorem equalIn_struct (d:Nat) (xs ys:Array Value) (w:World):∀ (fs:List Field) (s:Nat),flatInts P s fs=true ->
 ∀ (A B:List (IntKind × Int)),A.length=s+fs.length->A.map (·.1)=B.map (·.1)->(∀ (i:Nat) (k:IntKind) (m:Int),A[i]? = some (k,m)->xs[i]? = some (Value.int k m))->(∀ (i:Nat) (k:IntKind) (m:Int),B[i]? = some (k,m)->ys[i]? = some (Value.int k m)) ->
 (Op.eqFields (d+1) xs ys fs).run P w = .ok (decide ((A.drop s).map (·.2)=(B.drop s).map (·.2))) w
 | [],s,_,A,B,hA,hk,_,_=>by
  have hB:B.length=A.length:=by have:=congrArg List.length hk;simpa using this.symm
  rw [List.drop_eq_nil_of_le (by simp at hA;omega),List.drop_eq_nil_of_le (by simp at hA;omega)]
  simp [Op.eqFields]
 | f::fs,s,hf,A,B,hA,hk,hx,hy=>by
  simp only [flatInts,Bool.and_eq_true,bne_iff_ne,beq_iff_eq] at hf
  obtain ⟨⟨⟨h1,h2⟩,h3⟩,h4⟩:=hf
  split at h3
  rotate_left
  ·cases h3
  rename_i k0 he
  simp only [List.length_cons] at hA
  have hB:B.length=A.length:=by have:=congrArg List.length hk;simpa using this.symm
  have hsA:s<A.length:=by omega
  have hsB:s<B.length:=by omega
  have hkk:A[s].1=B[s].1:=by
   have h1:(A.map (·.1))[s]? = (B.map (·.1))[s]?:=by rw [hk]
   rw [List.getElem?_map,List.getElem?_map,List.getElem?_eq_getElem hsA,List.getElem?_eq_getElem hsB] at h1
   simpa using h1
  have ex:xs[s]? = some (Value.int A[s].1 A[s].2):=hx s _ _ (List.getElem?_eq_getElem hsA)
  have ey:ys[s]? = some (Value.int B[s].1 B[s].2):=hy s _ _ (List.getElem?_eq_getElem hsB)
  rw [<-hkk] at ey
  have p1:=run_part_int' (P:=P) he xs s ex w
  have p2:=run_part_int' (P:=P) he ys s ey w
  have q:(Op.equalIn (d+1) f.type (.int A[s].1 A[s].2) (.int A[s].1 B[s].2)).run P w = .ok (A[s].2 == B[s].2) w:=by
   simp [Op.equalIn,run_underlying he]
  have ih:=equalIn_struct d xs ys w fs (s+1) h4 A B (by omega) hk hx hy
  simp only [Op.eqFields,h1,ne_eq,not_false_eq_true,if_true,h2,Sem.run_bind,p1,p2,q,Result.andThen_ok,Sem.run_ite,ih,Sem.run_pure]
  rw [List.drop_eq_getElem_cons hsA,List.drop_eq_getElem_cons hsB]
  simp only [List.map_cons,List.cons.injEq]
  by_cases hq:A[s].2=B[s].2 <;> simp [hq]
theorem toV1_ok {x:AV} {u v:Value} (h:VR w L objs x v) (hu:toV1 x=some u):v=u:=by
 cases x with
 | val v' =>
  simp only [toV1,Option.some.injEq] at hu
  subst hu
  cases h with | tree h=>cases h;rfl
 | _=>cases hu
theorem toV1s_ok:∀ (cs:List AV) (us:List Value),cs.mapM toV1=some us->∀ (vs:List Value),vs.length=cs.length->(∀ i (h:i<cs.length) (h2:i<vs.length),VR w L objs cs[i] vs[i])->vs=us
 | [],us,hm,vs,hl,_=>by
  simp at hm;subst hm
  exact List.eq_nil_of_length_eq_zero hl
 | c::cs,us,hm,vs,hl,h=>by
  simp only [List.mapM_cons,Option.bind_eq_bind,Option.bind_eq_some_iff,Option.pure_def,Option.some.injEq] at hm
  obtain ⟨u,hu,us',hus,rfl⟩:=hm
  cases vs with
  | nil=>simp at hl
  | cons v vs =>
   have h0:=toV1_ok (h 0 (by simp) (by simp)) hu
   have h1:=toV1s_ok cs us' hus vs (by simpa using hl) (fun i hi h2=>h (i+1) (by simpa using hi) (by simpa using h2))
   simp only [List.getElem_cons_zero] at h0
   rw [h0,h1]
theorem toV_ok {x:AV} {u v:Value} (h:VR w L objs x v) (hu:toV x=some u):v=u:=by
 cases x with
 | val v'=>exact toV1_ok h hu
 | agg cs =>
  simp only [toV,Option.map_eq_some_iff] at hu
  obtain ⟨us,hus,rfl⟩:=hu
  obtain ⟨vs,rfl,hl,_,hr⟩:=h.agg_inv
  have:=toV1s_ok cs us hus vs.toList (by simpa using hl) (fun i h1 h2=>by simpa using hr i h1 (by simpa using h2))
  rw [<-this]
 | _=>cases hu
theorem toVs_ok {ev:Operand->AV} {ρ : Operand->Value} (he:∀ x,VR w L objs (ev x) (ρ x)):∀ (xs:List Operand) (vs:List Value),(xs.map ev).mapM toV=some vs->xs.map ρ = vs
 | [],vs,hm=>by simp at hm;subst hm;rfl
 | x::xs,vs,hm=>by
  simp only [List.map_cons,List.mapM_cons,Option.bind_eq_bind,Option.bind_eq_some_iff,Option.pure_def,Option.some.injEq] at hm
  obtain ⟨u,hu,us',hus,rfl⟩:=hm
  rw [List.map_cons,toV_ok (he x) hu,toVs_ok he xs us' hus]
theorem qop_ok {o:Oper} {c:COp} (hc:comp1 P o=some c) (g:Good F0 w0 w L objs) (hsub:Sub objs0 objs) {ev:Operand->AV} {ρ : Operand->Value} (he:∀ x,VR w L objs (ev x) (ρ x))
 {r:AV} {no:Option AObj} (hno:no.isSome->objs[nid]? = some .void) (hkn:∀ x ∈ c.stores,Known objs (ev x)) (h:qop objs0 ev nid c=some (r,no)):Does P (execOp ρ o) F0 w0 w L objs nid r no:=by
 obtain ⟨dst,op,type,pos,after,guard⟩:=o
 cases op with
 | move x =>
  simp only [comp1] at hc
  simp only [Option.some.injEq] at hc;subst hc
  simp only [qop,Option.some.injEq,Prod.mk.injEq] at h;obtain ⟨rfl,rfl⟩:=h
  exact .pure g (v:=ρ x) rfl (he x)
 | assign x =>
  simp only [comp1] at hc
  simp only [Option.some.injEq] at hc;subst hc
  simp only [qop,Option.some.injEq,Prod.mk.injEq] at h;obtain ⟨rfl,rfl⟩:=h
  exact .pure g (v:=ρ x) rfl (he x)
 | pick c a b =>
  simp only [comp1] at hc
  simp only [Option.some.injEq] at hc;subst hc
  simp only [qop,Option.map_eq_some_iff,Prod.mk.injEq] at h
  obtain ⟨t,ht,rfl,rfl⟩:=h
  have:=asB_ok (he c) ht
  refine .pure g (v:=if t then ρ a else ρ b) (by simp [execOp,this,asBool]) ?_
  cases t
  ·exact he b
  ·exact he a
 | alloc e =>
  simp only [comp1] at hc
  split at hc
  ·rename_i z _ _ hz
   simp only [Option.ite_none_right_eq_some,Option.some.injEq] at hc
   obtain ⟨⟨hf,hem⟩,rfl⟩:=hc
   simp only [qop,Option.some.injEq,Prod.mk.injEq] at h;obtain ⟨rfl,rfl⟩:=h
   have hz':(zeroValue e).run P w = .ok z w:=by
    unfold tinfo at hz
    obtain ⟨i,hi,hi2⟩:=Option.map_eq_some_iff.1 hz
    simp only [Prod.mk.injEq] at hi2
    simp [zeroValue,typeInfo,hi,hi2.1]
   exact new_ok g (hno rfl) hem (ofV_ok z) hf (known_ofV z) (by simp [execOp,Instr.alloc,hz',run_newVar])
  ·cases hc
 | box e x =>
  simp only [comp1,Option.ite_none_right_eq_some,Option.some.injEq] at hc
  obtain ⟨hem,rfl⟩:=hc
  simp only [qop,Option.ite_none_right_eq_some,Option.some.injEq,Prod.mk.injEq] at h;obtain ⟨hf,rfl,rfl⟩:=h
  exact new_ok g (hno rfl) hem (he x) hf (hkn x (by simp [COp.stores])) (by simp [execOp,Instr.box,run_newVar])
 | load t x =>
  simp only [comp1] at hc
  split at hc
  ·rename_i ag n hag hn
   simp only [Option.some.injEq] at hc;subst hc
   have hh:no=none/\(do let cs <-cellsAt objs0 (ev x);if ag then if n<=cs.length then some (AV.agg (cs.take n)) else none else cs[0]? : Option AV)=some r:=by
    simp only [qop,Option.bind_eq_bind,Option.bind_eq_some_iff] at h ⊢
    obtain ⟨cs,hcs,h⟩:=h
    cases ag with
    | true =>
     simp only [if_true,Option.ite_none_right_eq_some,Option.some.injEq,Prod.mk.injEq] at h
     exact ⟨h.2.2.symm,cs,hcs,by rw [if_pos rfl,if_pos h.1,h.2.1]⟩
    | false =>
     simp only [Bool.false_eq_true,if_false,Option.map_eq_some_iff,Prod.mk.injEq] at h
     obtain ⟨c,hc,rfl,rfl⟩:=h
     exact ⟨rfl,cs,hcs,by simpa using hc⟩
   obtain ⟨rfl,hh⟩:=hh
   have hh2:(do let cs <-cellsAt objs (ev x);if ag then if n<=cs.length then some (AV.agg (cs.take n)) else none else cs[0]? : Option AV)=some r:=by
    simp only [Option.bind_eq_bind,Option.bind_eq_some_iff] at hh ⊢
    obtain ⟨cs,hcs,h⟩:=hh
    exact ⟨cs,cellsAt_sub hsub hcs,h⟩
   obtain ⟨u,hu,hv⟩:=load_ok (P:=P) g hag hn (he x) hh2
   exact .pure g (v:=u) (by simp [execOp,hu]) hv
  ·cases hc
 | nilCheck x =>
  simp only [comp1] at hc
  simp only [Option.some.injEq] at hc;subst hc
  simp only [qop] at h
  have hx:=he x
  generalize ev x=X at *
  cases X with
  | ptr cs =>
   simp only [Option.some.injEq,Prod.mk.injEq] at h;obtain ⟨rfl,rfl⟩:=h
   refine .pure g (v:=ρ x) ?_ hx
   have:=hx.ptr_inv
   obtain ⟨a,ha⟩:∃ a,ρ x = .pointer (some a):=by generalize ρ x=V at this;cases this;exact ⟨_,rfl⟩
   simp [execOp,ha]
  | ref id gen el c =>
   simp only at h
   split at h
   ·rename_i ho
    simp only [Option.ite_none_right_eq_some,Option.some.injEq,Prod.mk.injEq] at h;obtain ⟨rfl,rfl,rfl⟩:=h
    obtain ⟨b,o,n,_,hv⟩:=hx.ref_inv (live_of hsub ho)
    exact .pure g (v:=ρ x) (by simp [execOp,hv]) hx
   ·cases h
  | clo fn cap =>
   cases fn with
   | func f =>
    simp only [Option.some.injEq,Prod.mk.injEq] at h;obtain ⟨rfl,rfl⟩:=h
    obtain ⟨vs,hv,_⟩:=hx.clo_inv
    exact .pure g (v:=ρ x) (by simp [execOp,hv]) hx
   | _=>simp at h
  | _=>simp at h
 | binOp op t x y yt =>
  simp only [comp1] at hc
  split at hc
  ·rename_i k hu
   simp only [Option.some.injEq] at hc;subst hc
   simp only [qop,Option.bind_eq_bind,Option.bind_eq_some_iff,Option.some.injEq,Prod.mk.injEq] at h
   obtain ⟨⟨k1,m⟩,hm,⟨k2,n⟩,hn,v,hv,rfl,rfl⟩:=h
   have ex:=asI_ok (he x) hm
   have ey:=asI_ok (he y) hn
   have hg:(eqGuard op t x y (.int k1 m) (.int k2 n)).run P w = .ok () w:=by
    unfold eqGuard;split <;> rfl
   exact .pure g (v:=v) (by simp [execOp,ex,ey,hg,run_ibin op t k1 k2 m n v hv]) (.tree (.val _))
  ·rename_i hu
   simp only [Option.some.injEq] at hc;subst hc
   simp only [qop,Option.bind_eq_bind,Option.bind_eq_some_iff] at h
   obtain ⟨m,hm,n,hn,h⟩:=h
   have ex:=asB_ok (he x) hm
   have ey:=asB_ok (he y) hn
   have hg:(eqGuard op t x y (.bool m) (.bool n)).run P w = .ok () w:=by
    unfold eqGuard;split <;> rfl
   have heq:(Op.equal t (.bool m) (.bool n)).run P w = .ok (m == n) w:=by
    rw [Op.equal,show Op.maxDepth=9999+1 from rfl,Op.equalIn];simp [run_underlying hu]
   cases op <;> simp at h <;> obtain ⟨rfl,rfl⟩:=h
   ·exact .pure g (v:=.bool (m == n)) (by simp [execOp,ex,ey,hg,binOp,heq]) (.tree (.val _))
   ·exact .pure g (v:=.bool !(m == n)) (by simp [execOp,ex,ey,hg,binOp,heq]) (.tree (.val _))
  ·rename_i n e hu
   split at hc
   rotate_left
   ·cases hc
   rename_i k0 he'
   simp only [Option.ite_none_right_eq_some,Option.some.injEq] at hc
   obtain ⟨⟨hgd,hs1,hop⟩,rfl⟩:=hc
   have hx:=he x
   have hy:=he y
   obtain ⟨cs,ds,A,B,ex,ey,hA,hB,hkA,hnA,rfl,rfl⟩:=aeq_inv h
   rw [ex] at hx;rw [ey] at hy
   obtain ⟨vs,hvs,hvl,_,hvr⟩:=hx.agg_inv
   obtain ⟨us,hus,hul,_,hur⟩:=hy.agg_inv
   have gx:∀ (i:Nat) (k:IntKind) (m:Int),A[i]? = some (k,m)->vs[i]? = some (Value.int k m):=fun i k m h=>cell_int hvl hvr ((ints_get _ _ hA).2 i k m h)
   have gy:∀ (i:Nat) (k:IntKind) (m:Int),B[i]? = some (k,m)->us[i]? = some (Value.int k m):=fun i k m h=>cell_int hul hur ((ints_get _ _ hB).2 i k m h)
   have hrun:=equalIn_array (P:=P) 9998 t e k0 n vs us w hu he' hs1 A B hnA hkA gx gy
   have hg:=run_eqGuard_agg (P:=P) w op t x y vs us hgd
   rcases hop with rfl | rfl
   ·exact .pure g (v:=.bool (decide (A.map (·.2)=B.map (·.2)))) (by simp [execOp,hvs,hus,hg,run_eql_struct,hrun]) (.tree (by simpa using TR.val _))
   ·exact .pure g (v:=.bool !(decide (A.map (·.2)=B.map (·.2)))) (by simp [execOp,hvs,hus,hg,run_neq_struct,hrun]) (.tree (by simpa using TR.val _))
  ·rename_i fs hu
   simp only [Option.ite_none_right_eq_some,Option.some.injEq] at hc
   obtain ⟨⟨hgd,hst,hop,hfl⟩,rfl⟩:=hc
   have hx:=he x
   have hy:=he y
   obtain ⟨cs,ds,A,B,ex,ey,hA,hB,hkA,hnA,rfl,rfl⟩:=aeq_inv h
   rw [ex] at hx;rw [ey] at hy
   obtain ⟨vs,hvs,hvl,_,hvr⟩:=hx.agg_inv
   obtain ⟨us,hus,hul,_,hur⟩:=hy.agg_inv
   have gx:∀ (i:Nat) (k:IntKind) (m:Int),A[i]? = some (k,m)->vs[i]? = some (Value.int k m):=fun i k m h=>cell_int hvl hvr ((ints_get _ _ hA).2 i k m h)
   have gy:∀ (i:Nat) (k:IntKind) (m:Int),B[i]? = some (k,m)->us[i]? = some (Value.int k m):=fun i k m h=>cell_int hul hur ((ints_get _ _ hB).2 i k m h)
   have hfo:P.fieldsOf t=fs:=by simp [Program.fieldsOf,hu]
   have hrun:(Op.equalIn 10000 t (.agg vs) (.agg us)).run P w = .ok (decide (A.map (·.2)=B.map (·.2))) w:=by
    rw [show 10000=9999+1 from rfl,run_equalIn_struct w 9999 t vs us (by rw [hfo];exact hu) hst,hfo]
    have:=equalIn_struct (P:=P) 9998 vs us w fs.toList 0 hfl A B (by simp [hnA]) hkA gx gy
    simpa using this
   have hg:=run_eqGuard_agg (P:=P) w op t x y vs us hgd
   rcases hop with rfl | rfl
   ·exact .pure g (v:=.bool (decide (A.map (·.2)=B.map (·.2)))) (by simp [execOp,hvs,hus,hg,run_eql_struct,hrun]) (.tree (by simpa using TR.val _))
   ·exact .pure g (v:=.bool !(decide (A.map (·.2)=B.map (·.2)))) (by simp [execOp,hvs,hus,hg,run_neq_struct,hrun]) (.tree (by simpa using TR.val _))
  ·rename_i e hu
   simp only [Option.ite_none_right_eq_some,Option.some.injEq] at hc
   obtain ⟨hop,rfl⟩:=hc
   have:=isNil_ok (P:=P) (nid:=nid) g hsub (.inl ⟨rfl,e,hu⟩) hop he h
   simpa [execOp] using this
  ·rename_i e hu
   simp only [Option.ite_none_right_eq_some,Option.some.injEq] at hc
   obtain ⟨hop,rfl⟩:=hc
   have:=isNil_ok (P:=P) (nid:=nid) g hsub (.inr ⟨rfl,e,hu⟩) hop he h
   simpa [execOp] using this
  ·cases hc
 | unOp op t x =>
  cases op with
  | neg =>
   simp only [comp1,Option.some.injEq] at hc;subst hc
   simp only [qop,Option.map_eq_some_iff,Prod.mk.injEq] at h
   obtain ⟨⟨k,n⟩,hn,rfl,rfl⟩:=h
   have ex:=asI_ok (he x) hn
   exact .pure g (v:=.int k (k.wrap (0-n))) (by simp [execOp,ex,Op.unary,Op.intArith]) (.tree (.val _))
  | not =>
   simp only [comp1,Option.some.injEq] at hc;subst hc
   simp only [qop,Option.map_eq_some_iff,Prod.mk.injEq] at h
   obtain ⟨b,hb,rfl,rfl⟩:=h
   have ex:=asB_ok (he x) hb
   exact .pure g (v:=.bool !b) (by simp [execOp,ex,Op.unary]) (.tree (.val _))
  | _=>simp [comp1] at hc
 | convert src dst x =>
  simp only [comp1] at hc
  split at hc
  ·rename_i d k hs hd
   simp only [Option.some.injEq] at hc;subst hc
   simp only [qop,Option.map_eq_some_iff,Prod.mk.injEq] at h
   obtain ⟨⟨k',n⟩,hn,rfl,rfl⟩:=h
   have ex:=asI_ok (he x) hn
   refine .pure g (v:=.int k (k.wrap n)) ?_ (.tree (.val _))
   simp [execOp,ex,convert,run_underlying hs,run_underlying hd,Conv.intToInt]
  ·rename_i e hs hd
   split at hc
   ·rename_i he'
    simp only [Option.some.injEq] at hc;subst hc
    exact str_ok g hsub hs he' hd he h
   ·cases hc
  ·cases hc
 | fieldAddr s x f =>
  simp only [comp1] at hc
  split at hc
  ·rename_i fs hu
   split at hc
   ·rename_i fd hf
    split at hc
    ·rename_i n hn
     simp only [Option.some.injEq] at hc;subst hc
     exact fieldAddr_ok g hsub hu hf hn he h
    ·cases hc
   ·cases hc
  ·cases hc
 | field s x f =>
  simp only [comp1] at hc
  split at hc
  ·rename_i fs hu
   split at hc
   ·rename_i fd hf
    split at hc
    ·rename_i ag n ha hn
     simp only [Option.some.injEq] at hc;subst hc
     exact field_ok g hu hf ha hn he h
    ·cases hc
   ·cases hc
  ·cases hc
 | indexAddr t x i =>
  simp only [comp1] at hc
  split at hc
  ·rename_i e hu
   obtain ⟨n,hn,rfl⟩:=Option.map_eq_some_iff.1 hc
   exact idxS_ok g hsub hu hn he h
  ·rename_i len e hu
   obtain ⟨n,hn,rfl⟩:=Option.map_eq_some_iff.1 hc
   exact idxA_ok g hsub hu hn he h
  ·cases hc
 | index t x i =>
  simp only [comp1] at hc
  split at hc
  ·rename_i len e hu
   split at hc
   ·rename_i ag n ha hn
    simp only [Option.some.injEq] at hc;subst hc
    exact idxV_ok g hu ha hn he h
   ·cases hc
  ·cases hc
 | extract x i =>
  simp only [comp1,Option.some.injEq] at hc;subst hc
  simp only [qop] at h
  have hx:=he x
  generalize ev x=X at *
  cases X with
  | tup xs =>
   simp only [Option.map_eq_some_iff,Prod.mk.injEq] at h
   obtain ⟨y,hy,rfl,rfl⟩:=h
   obtain ⟨vs,hv,hl,hr⟩:=hx.tup_inv
   obtain ⟨hlt,rfl⟩:=List.getElem?_eq_some_iff.1 hy
   refine .pure g (v:=vs[i]'(by omega)) ?_ (hr i hlt (by omega))
   simp [execOp,hv,Instr.extract,Array.getElem?_eq_getElem (show i<vs.size by omega)]
  | _=>simp at h
 | slice t x lo hi mx =>
  cases mx with
  | none =>
   simp only [comp1] at hc
   split at hc
   ·rename_i e hu
    obtain ⟨n,hn,rfl⟩:=Option.map_eq_some_iff.1 hc
    exact slice_ok g hsub hu hn he h
   ·rename_i n e hu
    simp only [Option.ite_none_right_eq_some,Option.some.injEq] at hc
    obtain ⟨hs,rfl⟩:=hc
    exact sliceA_ok g hu hs he h
   ·cases hc
  | some m =>
   cases hi with
   | none=>simp [comp1] at hc
   | some h' =>
    simp only [comp1] at hc
    split at hc
    ·rename_i e hu
     obtain ⟨n,hn,rfl⟩:=Option.map_eq_some_iff.1 hc
     exact slice3_ok g hsub hu hn he h
    ·cases hc
 | makeSlice t l c =>
  simp only [comp1] at hc
  split at hc
  ·rename_i e hu
   split at hc
   ·rename_i z size bytes hi
    simp only [Option.ite_none_right_eq_some,Option.some.injEq] at hc
    obtain ⟨⟨hf,hp,hem⟩,rfl⟩:=hc
    exact mkslice_ok g hem hu hi hf hp he hno h
   ·cases hc
  ·cases hc
 | build t parts =>
  simp only [comp1] at hc
  split at hc
  ·rename_i z _ _ hi
   split at hc
   ·rename_i hz1
    have hz:(zeroValue t).run P w = .ok z w:=by
     unfold tinfo at hi
     obtain ⟨i,hi,hi2⟩:=Option.map_eq_some_iff.1 hi
     simp only [Prod.mk.injEq] at hi2
     simp [zeroValue,typeInfo,hi,hi2.1]
    have hcr:CR w L objs (z.cells.toList.map .val) z.cells:=by
     refine ⟨by simp,fun k x hx=>?_⟩
     rw [List.getElem?_map,Option.map_eq_some_iff] at hx
     obtain ⟨u,hu,rfl⟩:=hx
     rw [Array.getElem?_toList] at hu
     refine ⟨u,hu,?_,.tree (.val _)⟩
     obtain ⟨_,rfl⟩:=Array.getElem?_eq_some_iff.1 hu
     rw [Array.all_eq_true] at hz1
     exact hz1 _ _
    split at hc
    ·rename_i fs hu
     simp only [Option.bind_eq_some_iff,Option.ite_none_right_eq_some,Option.some.injEq] at hc
     obtain ⟨ps,hps,hall,rfl⟩:=hc
     simp only [qop,Option.map_eq_some_iff,Prod.mk.injEq] at h
     obtain ⟨cs,hcs,rfl,rfl⟩:=h
     obtain ⟨us,hus,hcr'⟩:=fill_ok he (fun i=>(fs[i]?).bind fun f=>(tsize P f.type).map fun n=>(f.offset,n)) parts.toList ps _ _ cs (fun x hx=>hkn x hx) hps hcr hcs
     have hpl:=mapM_sem (P:=P) (fun f:Field=>do pure (f.offset,<-Go.sizeOf f.type)) (fun f=>(tsize P f.type).map fun n=>(f.offset,n)) w (fun a b hab=>by
      obtain ⟨n,hn,rfl⟩:=Option.map_eq_some_iff.1 hab
      simp [run_sizeOf hn]) fs.toList (fun a ha=>by
      rw [Array.all_eq_true'] at hall
      simpa using hall a (by simpa using ha))
     obtain ⟨pl,hpl1,hpl2⟩:=hpl
     refine .pure g (v:=.agg us) ?_ hcr'.agg
     have hm:(fs.mapM (m:=Sem) fun f=>do pure (f.offset,<-Go.sizeOf f.type)).run P w = .ok pl.toArray w:=by
      rw [Array.mapM_eq_mapM_toList]
      simp [] at *
      simp [hpl1]
     have e:(fun x=>pl.toArray[x]?)=fun i=>(fs[i]?).bind fun (f:Field)=>(tsize P f.type).map fun n=>(f.offset,n):=funext fun i=>by rw [List.getElem?_toArray,hpl2 i,Array.getElem?_toList]
     have hps2:(parts.map fun x=>(x.1,ρ x.2)).toList=parts.toList.map fun p=>(p.1,ρ p.2):=by simp
     simp only [execOp,Instr.build,Sem.run_bind,hz,Result.andThen_ok,run_underlying hu,hm,e,hps2,hus]
     rfl
    ·rename_i len e hu
     simp only [Option.bind_eq_some_iff,Option.map_eq_some_iff] at hc
     obtain ⟨n,hn,ps,hps,rfl⟩:=hc
     simp only [qop,Option.map_eq_some_iff,Prod.mk.injEq] at h
     obtain ⟨cs,hcs,rfl,rfl⟩:=h
     obtain ⟨us,hus,hcr'⟩:=fill_ok he (fun i=>some (i*n,n)) parts.toList ps _ _ cs (fun x hx=>hkn x hx) hps hcr hcs
     refine .pure g (v:=.agg us) ?_ hcr'.agg
     have hps2:(parts.map fun x=>(x.1,ρ x.2)).toList=parts.toList.map fun p=>(p.1,ρ p.2):=by simp
     simp only [execOp,Instr.build,Sem.run_bind,hz,Result.andThen_ok,run_underlying hu,run_sizeOf hn,hps2,hus]
     rfl
    ·cases hc
   ·cases hc
  ·cases hc
 | buildSlice t len parts =>
  simp only [comp1] at hc
  split at hc
  ·rename_i e hu
   split at hc
   ·rename_i z size _ hi
    simp only [Option.ite_none_right_eq_some,Option.some.injEq] at hc
    obtain ⟨⟨hp,hps,hem⟩,rfl⟩:=hc
    unfold tinfo at hi
    obtain ⟨i,hi1,hi2⟩:=Option.map_eq_some_iff.1 hi
    simp only [Prod.mk.injEq] at hi2
    have hlen:len=parts.toList.length:=by
     have:=congrArg List.length hps;simpa using this.symm
    subst hlen
    have:=bslice_ok (P:=P) g (litE_cases z (parts.toList.map (·.2)) e) hem hu (by simp [tsize,hi1,hi2.2.1]) hp ⟨z,by simp [hi1,hi2.1]⟩ hps he (fun x hx=>hkn x hx) hno h
    have e:(List.map (fun p=>(p.1,ρ p.2)) parts.toList).toArray=parts.map fun x=>(x.1,ρ x.2):=by apply Array.ext';simp
    rw [e] at this
    simpa [execOp] using this
   ·cases hc
  ·cases hc
 | makeFunc fn first cap =>
  simp only [comp1] at hc
  split at hc
  ·rename_i h0
   have hf:first=#[]:=Array.eq_empty_of_size_eq_zero h0
   subst hf
   have plain:some (COp.mkfunc fn cap.toList)=some c->(∀ t p f b,fn ≠ .via t p f b)->Does P (execOp ρ ⟨dst,.makeFunc fn #[] cap,type,pos,after,guard⟩) F0 w0 w L objs nid r no:=by
    intro hc hv
    simp only [Option.some.injEq] at hc
    subst hc
    have hm:mkF fn (cap.toList.map ev)=some (.clo fn (cap.toList.map ev),none):=by
     cases fn <;> first | rfl | exact absurd rfl (hv _ _ _ _)
    simp only [qop,hm,Option.some.injEq,Prod.mk.injEq] at h
    obtain ⟨rfl,rfl⟩:=h
    refine .pure g (v:=.func fn #[] (cap.map ρ)) (by simp [execOp,Instr.makeFunc]) (.clo _ _ _ (by simp) fun i hi h2=>?_)
    simpa using he _
   cases fn with
   | via t p f b=>simp at hc
   | _=>exact plain hc (by intro _ _ _ _ e;cases e)
  ·split at hc
   ·rename_i h0 hcap
    have hf:cap=#[]:=Array.eq_empty_of_size_eq_zero hcap
    subst hf
    cases fn with
    | func f =>
     simp only [Option.some.injEq] at hc
     subst hc
     simp only [qop,mkF,Option.map_eq_some_iff,Prod.mk.injEq] at h
     obtain ⟨vs,hvs,rfl,rfl⟩:=h
     have hval:=toVs_ok he first.toList vs hvs
     refine .pure g (v:=.func (.func f) vs.toArray #[]) ?_ (.tree (.val _))
     have e:first.map ρ = vs.toArray:=by apply Array.ext';simpa using hval
     simp [execOp,Instr.makeFunc,e]
    | _=>simp at hc
   ·cases hc
 | store t x v =>
  simp only [comp1,Option.map_eq_some_iff] at hc
  obtain ⟨n,_,rfl⟩:=hc
  simp [qop] at h
 | range t x =>
  simp only [comp1] at hc
  split at hc
  ·obtain ⟨c,_,rfl⟩:=Option.map_eq_some_iff.1 hc
   simp [qop] at h
  ·cases hc
 | next x b =>
  simp only [comp1] at hc
  split at hc
  ·cases hc
  ·obtain rfl:=Option.some.inj hc
   simp [qop] at h
 | entry x =>
  simp only [comp1,Option.some.injEq] at hc
  subst hc
  simp [qop] at h
 | makeChan t s =>
  simp only [comp1] at hc
  split at hc
  ·rename_i dir e hu
   obtain ⟨i,hi,rfl⟩:=Option.map_eq_some_iff.1 hc
   simp only [qop,Option.bind_eq_some_iff,Option.ite_none_right_eq_some,Option.some.injEq,Prod.mk.injEq] at h
   obtain ⟨⟨k,m⟩,hm,hz,rfl,rfl⟩:=h
   simp only at hz
   subst hz
   have ex:=asI_ok (he s) hm
   have hr:=Go.Conc.run_makeChan (P:=P) (w:=w) hu hi k 0 (by omega) (by omega)
   refine ⟨_,_,L,?_,g.ext' (Ext.alloc w (.chan 0 #[] false 0 0 false)),.ext _ _ (Ext.alloc w _),.junk (.chan (some w.heap.size))⟩
   have hr':(Instr.makeChan t (.int k 0)).run P w=_:=hr
   simp [execOp,ex,hr']
  ·cases hc
 | makeMap t rs =>
  cases rs with
  | some y=>simp [comp1] at hc
  | none =>
   simp only [comp1] at hc
   split at hc
   ·rename_i kt et hu
    obtain ⟨c,hk,rfl⟩:=Option.map_eq_some_iff.1 hc
    simp only [qop,Option.some.injEq,Prod.mk.injEq] at h;obtain ⟨rfl,rfl⟩:=h
    exact mnew_ok g (hno rfl) (by simp [execOp,Instr.makeMap,newObj,Sem.run])
   ·cases hc
 | lookup t m k ok =>
  simp only [comp1] at hc
  split at hc
  ·rename_i kt et hu
   split at hc
   ·rename_i z _ _ hi
    obtain ⟨c,hk,rfl⟩:=Option.map_eq_some_iff.1 hc
    have hz:∀ w,(zeroValue et).run P w = .ok z w:=fun w=>by
     unfold tinfo at hi
     obtain ⟨i,hi,hi2⟩:=Option.map_eq_some_iff.1 hi
     simp only [Prod.mk.injEq] at hi2
     simp [zeroValue,typeInfo,hi,hi2.1]
    exact mget_ok g hsub (keys_of hk) hu hz he h
   ·cases hc
  ·cases hc
 | mapUpdate t m k v =>
  simp only [comp1] at hc
  split at hc
  ·obtain ⟨c,hk,rfl⟩:=Option.map_eq_some_iff.1 hc
   simp [qop] at h
  ·cases hc
 | insert t m k v =>
  simp only [comp1] at hc
  split at hc
  ·obtain ⟨c,hk,rfl⟩:=Option.map_eq_some_iff.1 hc
   simp [qop] at h
  ·cases hc
 | call c =>
  obtain ⟨callee,args,argTypes⟩:=c
  have l1:∀ {α : Type} {a:Array α} {x : α},a.toList=[x]->a=#[x]:=fun h=>by apply Array.ext';simpa using h
  have l2:∀ {α : Type} {a:Array α} {x y : α},a.toList=[x,y]->a=#[x,y]:=fun h=>by apply Array.ext';simpa using h
  cases callee with
  | value f =>
   simp only [comp1,Option.some.injEq] at hc;subst hc
   simp [qop] at h
  | invoke r m=>simp [comp1] at hc
  | builtin b =>
   cases b with
   | append =>
    simp only [comp1] at hc
    split at hc
    ·split at hc
     ·split at hc
      ·simp only [Option.ite_none_right_eq_some] at hc
       obtain ⟨_,hc⟩:=hc
       split at hc
       ·simp only [Option.some.injEq] at hc
        subst hc
        simp [qop] at h
       ·simp only [Option.ite_none_right_eq_some,Option.some.injEq] at hc
        obtain ⟨_,rfl⟩:=hc
        simp [qop] at h
       ·cases hc
      ·cases hc
     ·cases hc
    ·cases hc
   | len =>
    simp only [comp1] at hc
    split at hc
    ·rename_i x t ha ht
     obtain rfl:=l1 ha
     obtain rfl:=l1 ht
     split at hc
     ·rename_i e hu
      simp only [Option.some.injEq] at hc;subst hc
      have:=len_ok (P:=P) (ty:=type) g hsub hu he h
      simpa [execOp,resolve,invoke,builtin] using this
     ·rename_i n e hu
      simp only [Option.some.injEq] at hc;subst hc
      simp only [qop,Option.some.injEq,Prod.mk.injEq] at h
      obtain ⟨rfl,rfl⟩:=h
      refine .pure g (v:=.int .i64 n) ?_ (.tree (.val _))
      simp [execOp,resolve,invoke,builtin,Builtin.len_,run_underlying hu,goInt]
     ·rename_i kt et hu
      obtain ⟨c,hk,rfl⟩:=Option.map_eq_some_iff.1 hc
      have:=mlen_ok (P:=P) (ty:=type) g hsub hu he h
      simpa [execOp,resolve,invoke,builtin] using this
     ·cases hc
    ·cases hc
   | min =>
    simp only [comp1] at hc
    split at hc
    ·rename_i x y ha
     obtain rfl:=l2 ha
     simp only [Option.some.injEq] at hc;subst hc
     simp only [qop,Option.bind_eq_bind,Option.bind_eq_some_iff,Option.some.injEq,Prod.mk.injEq] at h
     obtain ⟨⟨k,m⟩,hm,⟨k',n⟩,hn,rfl,rfl⟩:=h
     have ex:=asI_ok (he x) hm
     have ey:=asI_ok (he y) hn
     refine .pure g (v:=.int k (if n<m then n else m)) ?_ (.tree (.val _))
     simp [execOp,resolve,invoke,builtin,Builtin.min_,ex,ey,Builtin.min2]
    ·cases hc
   | max =>
    simp only [comp1] at hc
    split at hc
    ·rename_i x y ha
     obtain rfl:=l2 ha
     simp only [Option.some.injEq] at hc;subst hc
     simp only [qop,Option.bind_eq_bind,Option.bind_eq_some_iff,Option.some.injEq,Prod.mk.injEq] at h
     obtain ⟨⟨k,m⟩,hm,⟨k',n⟩,hn,rfl,rfl⟩:=h
     have ex:=asI_ok (he x) hm
     have ey:=asI_ok (he y) hn
     refine .pure g (v:=.int k (if m<n then n else m)) ?_ (.tree (.val _))
     simp [execOp,resolve,invoke,builtin,Builtin.max_,ex,ey,Builtin.max2]
    ·cases hc
   | copy =>
    simp only [comp1] at hc
    split at hc
    ·split at hc
     ·simp only [Option.map_eq_some_iff] at hc
      obtain ⟨n,_,rfl⟩:=hc
      simp [qop] at h
     ·cases hc
    ·cases hc
   | _=>simp [comp1] at hc
 | _=>simp [comp1] at hc
def alt1:COp->COp
 | .bslice _ _ []=>.empS
 | .append e s b x y=>.appE e s b x y
 | c=>c
def Comp1 (P:Program) (o:Oper) (c:COp):Prop:=c = .bad \/ ∃ c0,comp1 P o=some c0/\(c=c0 \/ c=alt1 c0)
theorem Comp1.of {o:Oper} {c:COp} (h:comp1 P o=some c):Comp1 P o c:=.inr ⟨c,h,.inl rfl⟩
def isDefer:Op->Bool
 | .defer _=>true
 | _=>false
def compB (P:Program) (o:Oper):Option COp:=if isDefer o.op then none else some ((comp1 P o).getD .bad)
theorem compB_cases {o:Oper} {c:COp} (h:compB P o=some c):comp1 P o=some c \/ c = .bad:=by
 unfold compB at h
 split at h
 ·cases h
 simp only [Option.some.injEq] at h
 cases h1:comp1 P o with
 | none=>rw [h1] at h;exact .inr h.symm
 | some c0=>rw [h1] at h;exact .inl (by rw [<-h];rfl)
theorem compB_calm {o:Oper} {c:COp} (h:compB P o=some c):∀ d,o.op ≠ .defer d:=by
 intro d hd
 unfold compB at h
 rw [hd] at h
 simp [isDefer] at h
theorem Comp1.ofB {o:Oper} {c:COp} (h:compB P o=some c):Comp1 P o c:=by
 rcases compB_cases h with h | h
 ·exact .of h
 ·exact .inl h
theorem Comp1.altB {o:Oper} {c:COp} (h:compB P o=some c):Comp1 P o (alt1 c):=by
 rcases compB_cases h with h | rfl
 ·exact .inr ⟨c,h,.inr rfl⟩
 ·exact .inl rfl
theorem Comp1.back {o:Oper} {c:COp} (h:Comp1 P o c) (hb:c ≠ .bad) (ha:∀ c0,alt1 c0=c->c0=c):comp1 P o=some c:=by
 rcases h with h | ⟨c0,h1,h2 | h2⟩
 ·exact absurd h hb
 ·rw [h2];exact h1
 ·rw [<-ha c0 h2.symm];exact h1
theorem Comp1.call {o:Oper} {f:Operand} {args:List Operand} (h:Comp1 P o (.call f args)):comp1 P o=some (.call f args):=by
 refine h.back (by simp) fun c0 h2=>?_
 cases c0 with
 | bslice _ _ ps=>cases ps <;> simp [alt1] at h2
 | _=>first | (simp [alt1] at h2;done) | (simpa [alt1] using h2)
theorem Comp1.store {o:Oper} {n:Nat} {x v:Operand} (h:Comp1 P o (.store n x v)):comp1 P o=some (.store n x v):=by
 refine h.back (by simp) fun c0 h2=>?_
 cases c0 with
 | bslice _ _ ps=>cases ps <;> simp [alt1] at h2
 | _=>first | (simp [alt1] at h2;done) | (simpa [alt1] using h2)
theorem Comp1.append {o:Oper} {e:TypeId} {s b:Nat} {x v:Operand} (h:Comp1 P o (.append e s b x v)):comp1 P o=some (.append e s b x v):=by
 refine h.back (by simp) fun c0 h2=>?_
 cases c0 with
 | bslice _ _ ps=>cases ps <;> simp [alt1] at h2
 | _=>first | (simp [alt1] at h2;done) | (simpa [alt1] using h2)
theorem Comp1.mset {o:Oper} {c:Nat} {m k v:Operand} (h:Comp1 P o (.mset c m k v)):comp1 P o=some (.mset c m k v):=by
 refine h.back (by simp) fun c0 h2=>?_
 cases c0 with
 | bslice _ _ ps=>cases ps <;> simp [alt1] at h2
 | _=>first | (simp [alt1] at h2;done) | (simpa [alt1] using h2)
theorem Comp1.appendZ {o:Oper} {e:TypeId} {s b:Nat} {z:AV} {x v:Operand} (h:Comp1 P o (.appendZ e s b z x v)):comp1 P o=some (.appendZ e s b z x v):=by
 refine h.back (by simp) fun c0 h2=>?_
 cases c0 with
 | bslice _ _ ps=>cases ps <;> simp [alt1] at h2
 | _=>first | (simp [alt1] at h2;done) | (simpa [alt1] using h2)
theorem Comp1.copy {o:Oper} {n:Nat} {x v:Operand} (h:Comp1 P o (.copy n x v)):comp1 P o=some (.copy n x v):=by
 refine h.back (by simp) fun c0 h2=>?_
 cases c0 with
 | bslice _ _ ps=>cases ps <;> simp [alt1] at h2
 | _=>first | (simp [alt1] at h2;done) | (simpa [alt1] using h2)
theorem comp_bslice0 {o:Oper} {e:TypeId} {size:Nat} (h:comp1 P o=some (.bslice e size [])):∃ t,o.op = .buildSlice t 0 #[]/\P.underlying t=some (.slice e)/\tsize P e=some size:=by
 obtain ⟨dst,op,type,pos,after,guard⟩:=o
 cases op with
 | buildSlice t len parts =>
  simp only [comp1] at h
  split at h
  ·rename_i e' hu
   split at h
   ·rename_i z size' _ hi
    simp only [Option.ite_none_right_eq_some,Option.some.injEq,COp.bslice.injEq] at h
    obtain ⟨⟨h1,h2,_⟩,hle,rfl,h3⟩:=h
    rw [h3,litE_nil] at hle
    subst hle
    have hp:parts=#[]:=by
     have:=List.map_eq_nil_iff.1 h3
     exact Array.eq_empty_of_size_eq_zero (by rw [<-Array.length_toList,this];rfl)
    subst hp
    have hlen:len=0:=by
     have:=congrArg List.length h2
     simp at this;omega
    subst hlen
    refine ⟨t,rfl,hu,?_⟩
    unfold tinfo at hi
    obtain ⟨i,hi1,hi2⟩:=Option.map_eq_some_iff.1 hi
    simp only [Prod.mk.injEq] at hi2
    simp [tsize,hi1,hi2.2.1]
   ·cases h
  ·cases h
 | call c =>
  obtain ⟨callee,args,argTypes⟩:=c
  simp only [comp1] at h
  repeat' (split at h)
  all_goals first | (cases h;done) | (simp at h;done) | skip
 | unOp op _ _=>cases op <;> simp [comp1] at h
 | slice _ _ _ hi m=>cases m <;> cases hi <;> simp only [comp1] at h <;> (repeat' (split at h)) <;> simp at h
 | build t parts =>
  simp only [comp1] at h
  repeat' (split at h)
  all_goals first | (cases h;done) | (simp [Option.bind_eq_some_iff,Option.map_eq_some_iff] at h;done)
 | makeMap t rs=>cases rs <;> simp only [comp1] at h <;> (repeat' (split at h)) <;> simp at h
 | _=>first | (simp [comp1] at h;done) | (simp only [comp1] at h;(repeat' (split at h)) <;> simp at h)
theorem comp_append {o:Oper} {e:TypeId} {s b:Nat} {x y:Operand} (hc:comp1 P o=some (.append e s b x y)) :
 ∃ t t' e' z,o.op = .call { callee:=.builtin .append,args:=#[x,y],argTypes:=#[t,t'] }/\P.underlying t=some (.slice e)/\P.underlying t'=some (.slice e')/\tinfo P e=some (some z,s,b)/\z.cells.size=s/\0<s/\0<b/\e<mapT:=by
 obtain ⟨dst,op,type,pos,after,guard⟩:=o
 have l2:∀ {α : Type} {a:Array α} {x y : α},a.toList=[x,y]->a=#[x,y]:=fun h=>by apply Array.ext';simpa using h
 cases op with
 | call c =>
  obtain ⟨callee,args,argTypes⟩:=c
  cases callee with
  | builtin bb =>
   cases bb with
   | append =>
    simp only [comp1] at hc
    split at hc
    ·rename_i s' x' t t' ha ht
     split at hc
     ·rename_i e' hu
      split at hc
      ·rename_i z size bytes hi
       simp only [Option.ite_none_right_eq_some] at hc
       obtain ⟨⟨h1,h2,h3,hem⟩,hc⟩:=hc
       split at hc
       ·rename_i e2 hu2
        simp only [Option.some.injEq,COp.append.injEq] at hc
        obtain ⟨rfl,rfl,rfl,rfl,rfl⟩:=hc
        exact ⟨t,t',e2,z,by rw [l2 ha,l2 ht],hu,hu2,hi,h1,h2,h3,hem⟩
       ·simp at hc
       ·cases hc
      ·cases hc
     ·cases hc
    ·cases hc
   | copy=>simp only [comp1] at hc;(repeat' (split at hc)) <;> simp at hc
   | len=>simp only [comp1] at hc;(repeat' (split at hc)) <;> simp at hc
   | min=>simp only [comp1] at hc;(repeat' (split at hc)) <;> simp at hc
   | max=>simp only [comp1] at hc;(repeat' (split at hc)) <;> simp at hc
   | _=>simp [comp1] at hc
  | value f=>simp [comp1] at hc
  | invoke r m=>simp [comp1] at hc
 | unOp op _ _=>cases op <;> simp [comp1] at hc
 | slice _ _ _ hi m=>cases m <;> cases hi <;> simp only [comp1] at hc <;> (repeat' (split at hc)) <;> simp at hc
 | store t x v=>simp [comp1] at hc
 | build t parts =>
  simp only [comp1] at hc
  repeat' (split at hc)
  all_goals first | (cases hc;done) | (simp [Option.bind_eq_some_iff,Option.map_eq_some_iff] at hc;done)
 | makeMap t rs=>cases rs <;> simp only [comp1] at hc <;> (repeat' (split at hc)) <;> simp at hc
 | _=>first | (simp [comp1] at hc;done) | (simp only [comp1] at hc;(repeat' (split at hc)) <;> simp at hc)
theorem comp_appendZ {o:Oper} {e:TypeId} {s b:Nat} {zv:AV} {x y:Operand} (hc:comp1 P o=some (.appendZ e s b zv x y)) :
 ∃ t t' k z,zv=ofV z/\(ofV z).fits=true/\(ofV z).cells.length=s/\o.op = .call { callee:=.builtin .append,args:=#[x,y],argTypes:=#[t,t'] }/\P.underlying t=some (.slice e)/\P.underlying t'=some (.int k)/\tinfo P e=some (some z,s,b)/\z.cells.size=s/\0<s/\0<b/\e<mapT:=by
 obtain ⟨dst,op,type,pos,after,guard⟩:=o
 have l2:∀ {α : Type} {a:Array α} {x y : α},a.toList=[x,y]->a=#[x,y]:=fun h=>by apply Array.ext';simpa using h
 cases op with
 | call c =>
  obtain ⟨callee,args,argTypes⟩:=c
  cases callee with
  | builtin bb =>
   cases bb with
   | append =>
    simp only [comp1] at hc
    split at hc
    ·rename_i s' x' t t' ha ht
     split at hc
     ·rename_i e' hu
      split at hc
      ·rename_i z size bytes hi
       simp only [Option.ite_none_right_eq_some] at hc
       obtain ⟨⟨h1,h2,h3,hem⟩,hc⟩:=hc
       split at hc
       ·simp at hc
       ·rename_i k hu2
        simp only [Option.ite_none_right_eq_some,Option.some.injEq,COp.appendZ.injEq] at hc
        obtain ⟨⟨h4,h5⟩,rfl,rfl,rfl,rfl,rfl,rfl⟩:=hc
        exact ⟨t,t',k,z,rfl,h4,h5,by rw [l2 ha,l2 ht],hu,hu2,hi,h1,h2,h3,hem⟩
       ·cases hc
      ·cases hc
     ·cases hc
    ·cases hc
   | copy=>simp only [comp1] at hc;(repeat' (split at hc)) <;> simp at hc
   | len=>simp only [comp1] at hc;(repeat' (split at hc)) <;> simp at hc
   | min=>simp only [comp1] at hc;(repeat' (split at hc)) <;> simp at hc
   | max=>simp only [comp1] at hc;(repeat' (split at hc)) <;> simp at hc
   | _=>simp [comp1] at hc
  | value f=>simp [comp1] at hc
  | invoke r m=>simp [comp1] at hc
 | unOp op _ _=>cases op <;> simp [comp1] at hc
 | slice _ _ _ hi m=>cases m <;> cases hi <;> simp only [comp1] at hc <;> (repeat' (split at hc)) <;> simp at hc
 | store t x v=>simp [comp1] at hc
 | build t parts =>
  simp only [comp1] at hc
  repeat' (split at hc)
  all_goals first | (cases hc;done) | (simp [Option.bind_eq_some_iff,Option.map_eq_some_iff] at hc;done)
 | makeMap t rs=>cases rs <;> simp only [comp1] at hc <;> (repeat' (split at hc)) <;> simp at hc
 | _=>first | (simp [comp1] at hc;done) | (simp only [comp1] at hc;(repeat' (split at hc)) <;> simp at hc)
theorem comp_copy {o:Oper} {n:Nat} {x y:Operand} (hc:comp1 P o=some (.copy n x y)) :
 ∃ t t' e,o.op = .call { callee:=.builtin .copy,args:=#[x,y],argTypes:=#[t,t'] }/\P.underlying t=some (.slice e)/\tsize P e=some n:=by
 obtain ⟨dst,op,type,pos,after,guard⟩:=o
 have l2:∀ {α : Type} {a:Array α} {x y : α},a.toList=[x,y]->a=#[x,y]:=fun h=>by apply Array.ext';simpa using h
 cases op with
 | call c =>
  obtain ⟨callee,args,argTypes⟩:=c
  cases callee with
  | builtin bb =>
   cases bb with
   | copy =>
    simp only [comp1] at hc
    split at hc
    ·rename_i s' x' t t' ha ht
     split at hc
     ·rename_i e' hu
      simp only [Option.map_eq_some_iff,COp.copy.injEq] at hc
      obtain ⟨n',hn,rfl,rfl,rfl⟩:=hc
      exact ⟨t,t',e',by rw [l2 ha,l2 ht],hu,hn⟩
     ·cases hc
    ·cases hc
   | len=>simp only [comp1] at hc;(repeat' (split at hc)) <;> simp at hc
   | append=>simp only [comp1] at hc;(repeat' (split at hc)) <;> simp at hc
   | min=>simp only [comp1] at hc;(repeat' (split at hc)) <;> simp at hc
   | max=>simp only [comp1] at hc;(repeat' (split at hc)) <;> simp at hc
   | _=>simp [comp1] at hc
  | value f=>simp [comp1] at hc
  | invoke r m=>simp [comp1] at hc
 | unOp op _ _=>cases op <;> simp [comp1] at hc
 | slice _ _ _ hi m=>cases m <;> cases hi <;> simp only [comp1] at hc <;> (repeat' (split at hc)) <;> simp at hc
 | store t x v=>simp [comp1] at hc
 | build t parts =>
  simp only [comp1] at hc
  repeat' (split at hc)
  all_goals first | (cases hc;done) | (simp [Option.bind_eq_some_iff,Option.map_eq_some_iff] at hc;done)
 | makeMap t rs=>cases rs <;> simp only [comp1] at hc <;> (repeat' (split at hc)) <;> simp at hc
 | _=>first | (simp [comp1] at hc;done) | (simp only [comp1] at hc;(repeat' (split at hc)) <;> simp at hc)
theorem comp_mset {o:Oper} {c:Nat} {m k v:Operand} (hc:comp1 P o=some (.mset c m k v)) :
 ∃ t kt et,(o.op = .mapUpdate t m k v \/ o.op = .insert t m k v)/\P.underlying t=some (.map kt et)/\keyT P kt=some c:=by
 obtain ⟨dst,op,type,pos,after,guard⟩:=o
 cases op with
 | mapUpdate t m' k' v' =>
  simp only [comp1] at hc
  split at hc
  ·rename_i kt et hu
   simp only [Option.map_eq_some_iff,COp.mset.injEq] at hc
   obtain ⟨c',hk,rfl,rfl,rfl,rfl⟩:=hc
   exact ⟨t,kt,et,.inl rfl,hu,hk⟩
  ·cases hc
 | insert t m' k' v' =>
  simp only [comp1] at hc
  split at hc
  ·rename_i kt et hu
   simp only [Option.map_eq_some_iff,COp.mset.injEq] at hc
   obtain ⟨c',hk,rfl,rfl,rfl,rfl⟩:=hc
   exact ⟨t,kt,et,.inr rfl,hu,hk⟩
  ·cases hc
 | call c =>
  obtain ⟨callee,args,argTypes⟩:=c
  simp only [comp1] at hc
  repeat' (split at hc)
  all_goals first | (cases hc;done) | (simp at hc;done) | skip
 | unOp op _ _=>cases op <;> simp [comp1] at hc
 | slice _ _ _ hi m=>cases m <;> cases hi <;> simp only [comp1] at hc <;> (repeat' (split at hc)) <;> simp at hc
 | store t x v=>simp [comp1] at hc
 | build t parts =>
  simp only [comp1] at hc
  repeat' (split at hc)
  all_goals first | (cases hc;done) | (simp [Option.bind_eq_some_iff,Option.map_eq_some_iff] at hc;done)
 | makeMap t rs=>cases rs <;> simp only [comp1] at hc <;> (repeat' (split at hc)) <;> simp at hc
 | _=>first | (simp [comp1] at hc;done) | (simp only [comp1] at hc;(repeat' (split at hc)) <;> simp at hc)
theorem qop_okA {o:Oper} {c:COp} (hc:Comp1 P o c) (g:Good F0 w0 w L objs) (hsub:Sub objs0 objs) {ev:Operand->AV} {ρ : Operand->Value} (he:∀ x,VR w L objs (ev x) (ρ x))
 {r:AV} {no:Option AObj} (hno:no.isSome->objs[nid]? = some .void) (hkn:∀ x ∈ c.stores,Known objs (ev x)) (h:qop objs0 ev nid c=some (r,no)):Does P (execOp ρ o) F0 w0 w L objs nid r no:=by
 rcases hc with rfl | ⟨c0,h1,h2 | h2⟩
 ·simp [qop] at h
 ·subst h2;exact qop_ok h1 g hsub he hno hkn h
 have same:c0=c->Does P (execOp ρ o) F0 w0 w L objs nid r no:=fun e=>by subst e;exact qop_ok h1 g hsub he hno hkn h
 cases c0 with
 | bslice e s ps =>
  cases ps with
  | nil =>
   simp only [alt1] at h2;subst h2
   simp only [qop,Option.some.injEq,Prod.mk.injEq] at h
   obtain ⟨rfl,rfl⟩:=h
   obtain ⟨t,ho,hu,hs⟩:=comp_bslice0 h1
   have:=empS_ok (P:=P) (nid:=nid) g hu hs
   simpa [execOp,ho] using this
  | cons p ps=>exact same h2.symm
 | append e s b x y =>
  simp only [alt1] at h2;subst h2
  obtain ⟨t,t',e',z,ho,hu,hu',hi,hzs,hpos,hby,hem⟩:=comp_append h1
  have:=appE_ok (P:=P) (nid:=nid) (ty:=o.type) g hsub hem hu hu' hi hzs hpos hby (he x) (he y) hno h
  simpa [execOp,ho,resolve,invoke,builtin] using this
 | _=>exact same h2.symm
theorem qstep_ok {o:Oper} {c:COp} (hc:Comp1 P o c) (g:Good F0 w0 w L objs) (hsub:Sub objs0 objs) {ev:Operand->AV} {ρ : Operand->Value} (he:∀ x,VR w L objs (ev x) (ρ x))
 {r:AV} {no:Option AObj} (hno:no.isSome->objs[nid]? = some .void) (h:qstep objs0 ev nid c=some (r,no)):Does P (execOp ρ o) F0 w0 w L objs nid r no:=by
 simp only [qstep,Option.ite_none_right_eq_some] at h
 exact qop_okA hc g hsub he hno (fun x hx=>kn_ok hsub (List.all_eq_true.1 h.1 x hx)) h.2
def qstepK (kno objs:List AObj) (ev:Operand->AV) (nid:Nat) (c:COp):Option (AV × Option AObj) :=
 if c.stores.all (fun x=>(ev x).kn kno) then qop objs ev nid c else none
theorem kn_late {kno:List AObj} (hcur:∀ id:Nat,id<kno.length->objs[id]? = kno[id]? \/ objs[id]? = some .void) {x:AV} {v:Value} (hx:VR w L objs x v) (h:x.kn kno=true):Known objs x:=by
 have key:∀ id g:Nat,(match kno[id]? with | some (.arr g' _ _ _)=>g' == g | _=>false)=true->(stale objs id g \/ ∃ s,live objs id g s)->∃ s,live objs id g s:=by
  intro id g hk hor
  split at hk
  ·rename_i g' s e xs ho
   have hg:g'=g:=by simpa using hk
   subst hg
   rcases hcur id (List.getElem?_eq_some_iff.1 ho).1 with h1 | h1
   ·exact ⟨s,e,xs,by rw [h1];exact ho⟩
   ·exfalso
    rcases hor with h2 | ⟨s,e,xs,h2⟩
    ·rcases h2 with h2 | ⟨_,_,_,_,h2,_⟩ <;> rw [h1] at h2 <;> simp at h2
    ·rw [h1] at h2;simp at h2
  ·cases hk
 rintro id g (⟨o,l,rfl⟩ | ⟨e,c,rfl⟩)
 ·refine key id g h ?_
  cases hx with
  | tree h=>cases h
  | ownS _ _ _ _ _ h=>exact .inl h
  | ownN _ _ _ _ s h'=>exact .inr ⟨s,h'⟩
  | ownL _ _ _ _ _ s _ _ _ h'=>exact .inr ⟨s,h'⟩
 ·refine key id g h ?_
  cases hx with
  | tree h=>cases h
  | refS _ _ _ _ _ h=>exact .inl h
  | refL _ _ _ _ s _ _ _ h=>exact .inr ⟨s,h⟩
theorem qstepK_ok {kno:List AObj} {o:Oper} {c:COp} (hc:Comp1 P o c) (g:Good F0 w0 w L objs) (hsub:Sub objs0 objs) (hcur:∀ id:Nat,id<kno.length->objs[id]? = kno[id]? \/ objs[id]? = some .void) {ev:Operand->AV} {ρ : Operand->Value} (he:∀ x,VR w L objs (ev x) (ρ x))
 {r:AV} {no:Option AObj} (hno:no.isSome->objs[nid]? = some .void) (h:qstepK kno objs0 ev nid c=some (r,no)):Does P (execOp ρ o) F0 w0 w L objs nid r no:=by
 simp only [qstepK,Option.ite_none_right_eq_some] at h
 exact qop_okA hc g hsub he hno (fun x hx=>kn_late hcur (he x) (List.all_eq_true.1 h.1 x hx)) h.2
theorem kn_mono {kno kno':List AObj} (hs:Sub kno kno') {x:AV} (h:x.kn kno=true):x.kn kno'=true:=by
 cases x <;> first | rfl | skip
 all_goals
  simp only [AV.kn] at h ⊢
  split at h
  ·rename_i ho;rw [hs _ _ _ _ _ ho];exact h
  ·cases h
theorem qstepK_mono {kno kno':List AObj} (hs:Sub kno kno') {ev:Operand->AV} {c:COp} {r:AV} {no:Option AObj} (h:qstepK kno objs ev nid c=some (r,no)):qstepK kno' objs ev nid c=some (r,no):=by
 simp only [qstepK,Option.ite_none_right_eq_some] at h ⊢
 exact ⟨List.all_eq_true.2 fun x hx=>kn_mono hs (List.all_eq_true.1 h.1 x hx),h.2⟩
end Dak
namespace Dak
open Go Go.RowKit
variable [Globs]
variable {P : Program} {F0 : FD} {w0 w : World} {L : Lay} {objs objs0 : List AObj} {nid : Nat}
def St.ev (tmps:List AV):Operand->AV
 | .tmp t=>tmps.getD t .junk
 | .const v=>ofV v
 | .func f=>.clo (.func f) []
 | .global g=>gAV g
theorem ev_ok {tmps:List AV} {a:Act} (hg:GlOk w L.F) (hs:a.tmps.size=tmps.length) (ht:∀ t (h:t<tmps.length),VR w L objs tmps[t] (a.tmps.getD t undef)) (x:Operand):VR w L objs (St.ev tmps x) (a.eval x):=by
 cases x with
 | tmp t =>
  simp only [St.ev,Act.eval]
  by_cases h:t<tmps.length
  ·have:=ht t h
   rw [List.getD_eq_getElem?_getD,List.getElem?_eq_getElem h];exact this
  ·have h':tmps.length<=t:=Nat.le_of_not_lt h
   rw [List.getD_eq_getElem?_getD,List.getElem?_eq_none h'];exact .junk _
 | const v=>exact ofV_ok v
 | global g=>exact gAV_ok hg g
 | func f=>exact .clo _ _ _ (by simp) fun i h _=>absurd h (by simp)
theorem good_void (g:Good F0 w0 w L objs):Good F0 w0 w L (objs++[.void])/\Later w L objs w L (objs++[.void]):=by
 have get:∀ (i:Nat) (o:AObj),objs[i]? = some o->(objs++[AObj.void])[i]? = some o:=by
  intro i o h
  rw [List.getElem?_append_left (List.getElem?_eq_some_iff.1 h).1];exact h
 have hl:Later w L objs w L (objs++[.void]):=by
  refine ⟨fun b hF hb=>⟨rfl,hF⟩,fun i g h=>?_,fun i g s h=>.inr ⟨?_,rfl⟩⟩
  ·rcases h with h | ⟨g',s,e,xs,h,hlt⟩
   ·exact .inl (get _ _ h)
   ·exact .inr ⟨g',s,e,xs,get _ _ h,hlt⟩
  ·obtain ⟨e,xs,h⟩:=h;exact ⟨e,xs,get _ _ h⟩
 refine ⟨⟨fun id o ho=>?_,fun id hid=>g.out id (by simp at hid;omega),g.inj,g.own,g.old,g.ext,g.gl⟩,hl⟩
 by_cases hlt:id<objs.length
 ·rw [List.getElem?_append_left hlt] at ho
  have:=g.obj id o ho
  cases o with
  | void=>exact this
  | dead=>exact this
  | probe k st li bk ps=>exact this.probe_stay hl rfl
  | arr gen size elem xs =>
   unfold OR at this ⊢
   cases hbk:L.blk id with
   | none=>rw [hbk] at this;exact this
   | some q =>
    obtain ⟨b,o',n⟩:=q
    rw [hbk] at this
    obtain ⟨cur,hc,hn,hr⟩:=this
    exact ⟨cur,hc,hn,hr.stay hl⟩
 ·have hid:id=objs.length:=by
   have:=(List.getElem?_eq_some_iff.1 ho).1
   simp at this;omega
  subst hid
  simp at ho;subst ho
  exact g.out _ (Nat.le_refl _)
theorem set_void (o:AObj):(objs++[AObj.void]).set objs.length o=objs++[o]:=by simp
def step1 (objs:List AObj) (ev:Operand->AV) (c:COp):Option (AV × List AObj) :=
 match c with
 | .store n x v=>if (ev v).kn objs then (storeA objs n (ev x) (ev v)).map fun o=>(.junk,o) else none
 | .append e s b x y =>
  match ev x with
  | .val v=>appendA (objs++[.void]) objs.length e s b (.val v) (ev y)
  | X=>appendA objs objs.length e s b X (ev y)
 | .copy s x y=>copyA objs s (ev x) (ev y)
 | .mset c m k v=>(msetA objs c (ev m) (ev k) (ev v)).map fun o=>(.junk,o)
 | .appendZ e s b z x y =>
  match ev x with
  | .val v=>appendZA (objs++[.void]) objs.length e s b z (.val v) (ev y)
  | X=>appendZA objs objs.length e s b z X (ev y)
 | c =>
  match qstep objs ev objs.length c with
  | some (r,none)=>some (r,objs)
  | some (r,some o)=>some (r,objs++[o])
  | none=>none
theorem step1_ok {o:Oper} {c:COp} (hcA:Comp1 P o c) (g:Good F0 w0 w L objs) {ev:Operand->AV} {ρ : Operand->Value} (he:∀ x,VR w L objs (ev x) (ρ x))
 {r:AV} {objs':List AObj} (h:step1 objs ev c=some (r,objs')) :
 ∃ nx w' L',(execOp ρ o).run P w = .ok nx w'/\Good F0 w0 w' L' objs'/\Later w L objs w' L' objs'/\((∃ v,nx = .value v/\VR w' L' objs' r v) \/ (nx = .skip/\r = .junk)):=by
 have quiet:∀ c',c'=c->(match qstep objs ev objs.length c' with | some (r,none)=>some (r,objs) | some (r,some o)=>some (r,objs++[o]) | none=>none)=some (r,objs') ->
  ∃ nx w' L',(execOp ρ o).run P w = .ok nx w'/\Good F0 w0 w' L' objs'/\Later w L objs w' L' objs'/\((∃ v,nx = .value v/\VR w' L' objs' r v) \/ (nx = .skip/\r = .junk)):=by
  rintro _ rfl h
  have hsub:Sub objs (objs++[.void]):=fun id g s e xs h=>by rw [List.getElem?_append_left (List.getElem?_eq_some_iff.1 h).1];exact h
  obtain ⟨gv,hlv⟩:=good_void g
  have hv:(objs++[AObj.void])[objs.length]? = some .void:=by simp
  split at h
  ·rename_i r1 hq
   simp only [Option.some.injEq,Prod.mk.injEq] at h
   obtain ⟨rfl,rfl⟩:=h
   obtain ⟨v,w',L',hr,hg,hl,hvr⟩:=qstep_ok (P:=P) hcA g (fun _ _ _ _ _ h=>h) he (no:=none) (by simp) hq
   exact ⟨_,w',L',hr,hg,hl,.inl ⟨v,rfl,hvr⟩⟩
  ·rename_i r1 o1 hq
   simp only [Option.some.injEq,Prod.mk.injEq] at h
   obtain ⟨rfl,rfl⟩:=h
   obtain ⟨v,w',L',hr,hg,hl,hvr⟩:=qstep_ok (P:=P) hcA gv hsub (fun x=>(he x).stay hlv) (no:=some o1) (fun _=>hv) hq
   simp only [putO,set_void] at hg hl hvr
   exact ⟨_,w',L',hr,hg,hlv.trans hl,.inl ⟨v,rfl,hvr⟩⟩
  ·cases h
 unfold step1 at h
 split at h
 ·rename_i n x v
  simp only [Option.ite_none_right_eq_some,Option.map_eq_some_iff,Prod.mk.injEq] at h
  obtain ⟨hk,o',ho,rfl,rfl⟩:=h
  have hc:=hcA.store
  obtain ⟨dst,op,type,pos,after,guard⟩:=o
  have:∃ t,op = .store t x v/\tsize P t=some n:=by
   cases op with
   | store t x' v' =>
    simp only [comp1,Option.map_eq_some_iff,COp.store.injEq] at hc
    obtain ⟨n',hn,rfl,rfl,rfl⟩:=hc
    exact ⟨t,rfl,hn⟩
   | call c =>
    obtain ⟨callee,args,argTypes⟩:=c
    simp only [comp1] at hc
    repeat' (split at hc)
    all_goals first | (cases hc;done) | (simp at hc;done) | skip
   | unOp op _ _=>cases op <;> simp [comp1] at hc
   | slice _ _ _ hi m=>cases m <;> cases hi <;> simp only [comp1] at hc <;> (repeat' (split at hc)) <;> simp at hc
   | build t parts =>
    simp only [comp1] at hc
    repeat' (split at hc)
    all_goals first | (cases hc;done) | (simp [Option.bind_eq_some_iff,Option.map_eq_some_iff] at hc;done)
   | makeMap t rs=>cases rs <;> simp only [comp1] at hc <;> (repeat' (split at hc)) <;> simp at hc
   | _=>first | (simp [comp1] at hc;done) | (simp only [comp1] at hc;(repeat' (split at hc)) <;> simp at hc)
  obtain ⟨t,rfl,hn⟩:=this
  obtain ⟨w',L',hr,hg,hl⟩:=store_ok (P:=P) g hn (he x) (he v) (kn_ok (fun _ _ _ _ _ h=>h) hk) ho
  exact ⟨.skip,w',L',by simp [execOp,hr],hg,hl,.inr ⟨rfl,rfl⟩⟩
 ·rename_i e s b x y
  obtain ⟨t,t',e',z,ho,hu,hu',hi,hzs,hpos,hby,hem⟩:=comp_append hcA.append
  have hex:∀ v w',(Builtin.append_ #[t,t'] o.type #[ρ x,ρ y]).run P w = .ok v w'->(execOp ρ o).run P w = .ok (.value v) w':=by
   intro v w' h;simp [execOp,ho,resolve,invoke,builtin,h]
  have hx:=he x
  have hy:=he y
  split at h
  ·rename_i v hv
   rw [hv] at hx
   obtain ⟨gv,hlv⟩:=good_void g
   obtain ⟨u,w',L',hr,hg,hl,hvr⟩:=append_ok (P:=P) (ty:=o.type) gv hem hu hu' hi hzs hpos hby (hx.stay hlv) (hy.stay hlv) (fun _=>by simp) h
   exact ⟨_,w',L',hex _ _ hr,hg,hlv.trans hl,.inl ⟨u,rfl,hvr⟩⟩
  ·rename_i hv
   obtain ⟨u,w',L',hr,hg,hl,hvr⟩:=append_ok (P:=P) (ty:=o.type) g hem hu hu' hi hzs hpos hby hx hy (fun h'=>absurd h' (hv _)) h
   exact ⟨_,w',L',hex _ _ hr,hg,hl,.inl ⟨u,rfl,hvr⟩⟩
 ·rename_i s x y
  obtain ⟨t,t',e,ho,hu,hs⟩:=comp_copy hcA.copy
  obtain ⟨v,w',L',hr,hg,hl,hv⟩:=copy_ok (P:=P) (t':=t') (ty:=o.type) g hu hs (he x) (he y) h
  refine ⟨.value v,w',L',?_,hg,hl,.inl ⟨v,rfl,hv⟩⟩
  simp [execOp,ho,resolve,invoke,builtin,hr]
 ·rename_i c m k v
  simp only [Option.map_eq_some_iff,Prod.mk.injEq] at h
  obtain ⟨o',ho,rfl,rfl⟩:=h
  obtain ⟨t,kt,et,hop,hu,hk⟩:=comp_mset hcA.mset
  obtain ⟨w',L',hr,hg,hl⟩:=mset_ok (P:=P) g (keys_of hk) hu (he m) (he k) (he v) ho
  refine ⟨.skip,w',L',?_,hg,hl,.inr ⟨rfl,rfl⟩⟩
  obtain ⟨dst,op,type,pos,after,guard⟩:=o
  rcases hop with rfl | rfl <;> simp [execOp,hr]
 ·rename_i e s b zv x y
  obtain ⟨t,t',k,z,rfl,hf,hzl,ho,hu,hu',hi,hzs,hpos,hby,hem⟩:=comp_appendZ hcA.appendZ
  have hex:∀ v w',(Builtin.append_ #[t,t'] o.type #[ρ x,ρ y]).run P w = .ok v w'->(execOp ρ o).run P w = .ok (.value v) w':=by
   intro v w' h;simp [execOp,ho,resolve,invoke,builtin,h]
  have hx:=he x
  have hy:=he y
  split at h
  ·rename_i v hv
   rw [hv] at hx
   obtain ⟨gv,hlv⟩:=good_void g
   obtain ⟨u,w',L',hr,hg,hl,hvr⟩:=appendZ_ok (P:=P) (ty:=o.type) gv hem hu hu' hi hzs hf hzl hpos hby (hx.stay hlv) (hy.stay hlv) (fun _=>by simp) h
   exact ⟨_,w',L',hex _ _ hr,hg,hlv.trans hl,.inl ⟨u,rfl,hvr⟩⟩
  ·rename_i hv
   obtain ⟨u,w',L',hr,hg,hl,hvr⟩:=appendZ_ok (P:=P) (ty:=o.type) g hem hu hu' hi hzs hf hzl hpos hby hx hy (fun h'=>absurd h' (hv _)) h
   exact ⟨_,w',L',hex _ _ hr,hg,hl,.inl ⟨u,rfl,hvr⟩⟩
 ·exact quiet _ rfl h
end Dak
namespace Dak
open Go Go.RowKit
variable [Globs]
variable {P : Program} {F0 : FD} {w0 w : World} {L : Lay} {objs objs0 : List AObj} {nid : Nat}
inductive Snaps (objs:List AObj):List AV->List AV->Prop
 | nil:Snaps objs [] []
 | cons {x y:AV} {xs ys:List AV} (h:Snap objs x y) (t:Snaps objs xs ys):Snaps objs (x::xs) (y::ys)
theorem Snaps.get {xs ys:List AV} (h:Snaps objs xs ys):xs.length=ys.length/\∀ i (h1:i<xs.length) (h2:i<ys.length),Snap objs xs[i] ys[i]:=by
 induction h with
 | nil=>exact ⟨rfl,fun i h=>absurd h (by simp)⟩
 | cons h t ih =>
  refine ⟨by simp [ih.1],fun i h1 h2=>?_⟩
  cases i with
  | zero=>exact h
  | succ i=>simpa using ih.2 i (by simpa using h1) (by simpa using h2)
def putL (objs:List AObj) (nid:Nat):List AObj->List AObj
 | []=>objs
 | o::os=>putL (objs.set nid o) (nid+1) os
theorem putL_len:∀ (os objs:List AObj) (nid:Nat),(putL objs nid os).length=objs.length
 | [],_,_=>rfl
 | o::os,objs,nid=>by rw [putL,putL_len os,List.length_set]
theorem putL_get:∀ (os objs:List AObj) (nid id:Nat),nid+os.length<=objs.length->(putL objs nid os)[id]? = if nid<=id/\id<nid+os.length then os[id-nid]? else objs[id]?
 | [],objs,nid,id,h=>by rw [putL,if_neg (by simp)]
 | o::os,objs,nid,id,h=>by
  simp only [List.length_cons] at h ⊢
  rw [putL,putL_get os _ _ _ (by rw [List.length_set];omega)]
  by_cases h1:nid+1<=id/\id<nid+1+os.length
  ·rw [if_pos h1,if_pos (by omega),show id-nid=(id-(nid+1))+1 by omega,List.getElem?_cons_succ]
  ·rw [if_neg h1]
   by_cases h2:id=nid
   ·subst h2
    rw [List.getElem?_set_self (by omega),if_pos (by omega),Nat.sub_self];rfl
   ·rw [List.getElem?_set_ne (Ne.symm h2),if_neg (by omega)]
theorem new_sets {w':World} {L':Lay} {news:List AObj} {nid:Nat} (g:Good F0 w0 w L objs) (hn:nid+news.length<=objs.length) (hv:∀ k,k<news.length->objs[nid+k]? = some .void) (g':Good ⟨L.F,(· < w.heap.size),[]⟩ w w' L' news) (hi:(news.all fun x=>x.inRO news)=true) :
 ∃ L2,Good F0 w0 w' L2 (putL objs nid (news.map (AObj.renO (nid+·))))/\Later w L objs w' L2 (putL objs nid (news.map (AObj.renO (nid+·))))/\∀ x v,VR w' L' news x v->x.inR news=true->VR w' L2 (putL objs nid (news.map (AObj.renO (nid+·)))) (x.ren (nid+·)) v:=by
 have hx:=g'.ext.ext
 generalize hO:putL objs nid (news.map (AObj.renO (nid+·)))=O
 have olen:O.length=objs.length:=by rw [<-hO,putL_len]
 have oget1:∀ i,i<news.length->O[nid+i]? = (news[i]?).map (AObj.renO (nid+·)):=by
  intro i hi
  rw [<-hO,putL_get _ _ _ _ (by simpa using hn),if_pos (by simp;omega),Nat.add_sub_cancel_left,List.getElem?_map]
 have oget2:∀ id,¬ (nid<=id/\id<nid+news.length)->O[id]? = objs[id]?:=by
  intro id hid
  rw [<-hO,putL_get _ _ _ _ (by simpa using hn),if_neg (by simpa using hid)]
 have dec:∀ id,(∃ i,i<news.length/\id=nid+i) \/ ¬ (nid<=id/\id<nid+news.length):=by
  intro id
  by_cases h:nid<=id/\id<nid+news.length
  ·exact .inl ⟨id-nid,by omega,by omega⟩
  ·exact .inr h
 let L2:Lay:=⟨fun b=>L.F b \/ L'.F b,fun id=>if nid<=id/\id<nid+news.length then L'.blk (id-nid) else L.blk id⟩
 have b1:∀ i,i<news.length->L2.blk (nid+i)=L'.blk i:=fun i h=>(if_pos (by omega)).trans (by rw [Nat.add_sub_cancel_left])
 have b2:∀ id,¬ (nid<=id/\id<nid+news.length)->L2.blk id=L.blk id:=fun id h=>if_neg h
 have hne:∀ {id gg},stale objs id gg->¬ (nid<=id/\id<nid+news.length):=by
  intro id gg h hin
  have hv':=hv (id-nid) (by omega)
  rw [show nid+(id-nid)=id by omega] at hv'
  rcases h with h | ⟨_,_,_,_,h,_⟩ <;> rw [hv'] at h <;> cases h
 have hnel:∀ {id gg s},live objs id gg s->¬ (nid<=id/\id<nid+news.length):=by
  rintro id gg s ⟨e,xs,h⟩ hin
  have hv':=hv (id-nid) (by omega)
  rw [show nid+(id-nid)=id by omega] at hv'
  rw [hv'] at h;cases h
 have HL:Later w L objs w' L2 O:=by
  refine ⟨fun b hF hb=>⟨hx.block b hb,.inl hF⟩,fun id gg h=>?_,fun id gg s h=>.inr ⟨?_,b2 _ (hnel h)⟩⟩
  ·have:=hne h
   unfold stale at h ⊢;rwa [oget2 _ this]
  ·have:=hnel h
   unfold live at h ⊢;rwa [oget2 _ this]
 have at0:∀ (i gg s:Nat) (e:TypeId) (xs:List AV),news[i]? = some (AObj.arr gg s e xs)->O[nid+i]? = some (AObj.arr gg s e (xs.map (AV.ren (nid+·)))):=by
  intro i gg s e xs h
  rw [oget1 i (List.getElem?_eq_some_iff.1 h).1,h];rfl
 have lt1:∀ {i gg s},live news i gg s->i<news.length:=by
  rintro i gg s ⟨e,xs,h⟩
  exact (List.getElem?_eq_some_iff.1 h).1
 have hl2:∀ i gg s,live news i gg s->live O (nid+i) gg s/\L2.blk (nid+i)=L'.blk i:=fun i gg s h=>⟨ren_live (σ:=(nid+·)) at0 h,b1 i (lt1 h)⟩
 have hs2:∀ i gg,stale news i gg->stale O (nid+i) gg:=fun i gg h=>ren_stale (σ:=(nid+·)) at0 (fun i h=>by have:=List.all_eq_true.1 hi _ (List.mem_of_getElem? h);cases this) h
 have hF2:∀ b,L'.F b->L2.F b:=fun b h=>Or.inr h
 have low:∀ {i b o n},L.blk i=some (b,o,n)->b<w.heap.size:=fun h=>(g.own _ _ _ _ h).2.2
 have high:∀ {i b o n},L'.blk i=some (b,o,n)->¬ b<w.heap.size:=fun h=>(g'.own _ _ _ _ h).2.1
 refine ⟨L2,⟨fun id ob ho=>?_,fun id hid=>?_,fun i j b o n o' n' h1 h2=>?_,fun id b o n hbk=>?_,fun b hF=>?_,g.ext.then hx,g.gl.stay HL.wk⟩,HL,fun x v h hin=>ren_vr hF2 hl2 hs2 h hin⟩
 ·rcases dec id with ⟨k,hk,rfl⟩ | e
  ·rw [oget1 k hk,List.getElem?_eq_getElem hk] at ho
   simp only [Option.map_some,Option.some.injEq] at ho
   subst ho
   have:=g'.obj k _ (List.getElem?_eq_getElem hk)
   have hin:=List.all_eq_true.1 hi news[k] (List.getElem_mem hk)
   generalize news[k]=o at *
   cases o with
   | void=>unfold OR at this ⊢;simp only [AObj.renO];rw [b1 k hk];exact this
   | dead=>cases hin
   | probe=>cases hin
   | arr gen size elem xs =>
    unfold OR at this ⊢
    simp only [AObj.renO]
    rw [b1 k hk]
    cases hbk:L'.blk k with
    | none=>rw [hbk] at this;subst this;rfl
    | some q =>
     obtain ⟨b,o',n⟩:=q
     rw [hbk] at this
     obtain ⟨cur,hc,hn,hr1,hr2⟩:=this
     refine ⟨cur,hc,hn,by simpa using hr1,fun i hi'=>?_⟩
     rw [List.length_map] at hi'
     obtain ⟨hs,hr3⟩:=hr2 i hi'
     have hxi:(xs[i]).inR news=true:=List.all_eq_true.1 hin _ (List.getElem_mem _)
     rw [List.getElem_map]
     obtain ⟨c1,c2⟩:=ren_cells (σ:=(nid+·)) xs[i]
     refine ⟨c1.trans hs,fun j hj=>?_⟩
     obtain ⟨u,hu,ho1',hv'⟩:=hr3 j (by rw [<-c1];exact hj)
     refine ⟨u,hu,ho1',?_⟩
     rcases c2 j (by rw [<-c1];exact hj) hj with e | ⟨cs,e1,e2⟩
     ·rw [e];exact ren_vr hF2 hl2 hs2 hv' (inR_cells hxi _ (List.getElem_mem _))
     ·rw [e2]
      refine ren1_vr hF2 hl2 hs2 hv' ?_
      generalize xs[i]=x at *
      subst e1
      exact List.all_eq_true.1 hxi _ (List.getElem_mem _)
  ·rw [oget2 _ e] at ho
   have:=g.obj id ob ho
   cases ob with
   | void=>unfold OR at this ⊢;rw [b2 id e];exact this
   | dead=>unfold OR at this ⊢;rw [b2 id e];exact this
   | probe k st li bk ps=>exact this.probe_stay HL (b2 id e)
   | arr gen size elem xs =>
    unfold OR at this ⊢
    rw [b2 id e]
    cases hbk:L.blk id with
    | none=>rw [hbk] at this;exact this
    | some q =>
     obtain ⟨b,o',n⟩:=q
     rw [hbk] at this
     obtain ⟨cur,hc,hn,hr⟩:=this
     exact ⟨cur,hc.tr (hx.block b (g.own _ _ _ _ hbk).2.2),hn,hr.stay HL⟩
 ·rw [olen] at hid
  rw [b2 id (by omega)];exact g.out id hid
 ·rcases dec i with ⟨i',hi1,rfl⟩ | hi1 <;> rcases dec j with ⟨j',hj1,rfl⟩ | hj1
  ·rw [b1 i' hi1] at h1;rw [b1 j' hj1] at h2;rw [g'.inj _ _ _ _ _ _ _ h1 h2]
  ·rw [b1 i' hi1] at h1;rw [b2 j hj1] at h2;exact absurd (low h2) (high h1)
  ·rw [b2 i hi1] at h1;rw [b1 j' hj1] at h2;exact absurd (low h1) (high h2)
  ·rw [b2 i hi1] at h1;rw [b2 j hj1] at h2;exact g.inj _ _ _ _ _ _ _ h1 h2
 ·rcases dec id with ⟨i',hi1,rfl⟩ | hi1
  ·rw [b1 i' hi1] at hbk
   have h1:=g'.own _ _ _ _ hbk
   exact ⟨fun hF=>hF.elim (fun hF=>h1.2.1 (g.old b hF).2) h1.1,g.fresh (Nat.le_of_not_lt h1.2.1),h1.2.2⟩
  ·rw [b2 id hi1] at hbk
   have h1:=g.own _ _ _ _ hbk
   refine ⟨fun hF=>hF.elim h1.1 fun hF=>?_,h1.2.1,Nat.lt_of_lt_of_le h1.2.2 hx.size⟩
   rcases (g'.old b hF).1 with h2 | h2
   ·exact h1.1 h2
   ·exact h2 h1.2.2
 ·rcases hF with hF | hF
  ·have h1:=g.old b hF
   exact ⟨h1.1,Nat.lt_of_lt_of_le h1.2 hx.size⟩
  ·have h1:=g'.old b hF
   refine ⟨?_,h1.2⟩
   rcases h1.1 with h2 | h2
   ·exact (g.old b h2).1
   ·exact .inr (g.fresh (Nat.le_of_not_lt h2))
inductive CallOk (P:Program) (objs:List AObj):AV->List AV->AV->Prop
 | flat (f:FuncId) (cap args xs:List AV) (r:AV) (hs:Snaps objs (args++cap) xs) (h:Ctr P f xs r) (hf:r.flat=true):CallOk P objs (.clo (.func f) cap) args r
 | data (f:FuncId) (cap args xs:List AV) (r:AV) (hs:Snaps [] (args++cap) xs) (h:Ctr P f xs r):CallOk P objs (.clo (.func f) cap) args r
 | read (f:FuncId) (cap args:List AV) (base tail:List AObj) (r:AV) (ho:objs=base++tail) (h:CtrM P f (args++cap) base r base) (hb:(base.all fun o=>o.innO base.length)=true)
  (ha:((args++cap).all fun x=>x.inn base.length)=true):CallOk P objs (.clo (.func f) cap) args r
 | bnd (f:FuncId) (vs:List Value) (us args xs:List AV) (r:AV) (hl:us.length=vs.length) (hu:∀ (w:World) (F:Nat->Prop) i (h:i<us.length) (h2:i<vs.length),TR w F us[i] vs[i])
  (hs:Snaps [] (us++args) xs) (h:Ctr P f xs r):CallOk P objs (.val (.func (.func f) vs.toArray #[])) args r
inductive CallN1 (P:Program) (objs:List AObj) (nid:Nat):AV->List AV->AV->List AObj->Prop
 | data (f:FuncId) (cap args xs:List AV) (r:AV) (o:AObj) (hs:Snaps [] (args++cap) xs) (h:CtrN P f xs r [o]) (hi:([o].all fun x=>x.inRO [o])=true) (hr:r.inR [o]=true):CallN1 P objs nid (.clo (.func f) cap) args (r.ren fun _=>nid) [o.renO fun _=>nid]
 | flat (f:FuncId) (cap args xs:List AV) (r:AV) (o:AObj) (hs:Snaps objs (args++cap) xs) (h:CtrN P f xs r [o]) (hi:([o].all fun x=>x.inRO [o])=true) (hr:r.inR [o]=true) (hf:o.flat=true) (hrf:r.flatO=true):CallN1 P objs nid (.clo (.func f) cap) args (r.ren fun _=>nid) [o.renO fun _=>nid]
 | many (f:FuncId) (cap args xs:List AV) (r:AV) (news:List AObj) (hs:Snaps [] (args++cap) xs) (h:CtrN P f xs r news) (hi:(news.all fun x=>x.inRO news)=true) (hr:r.inR news=true):CallN1 P objs nid (.clo (.func f) cap) args (r.ren (nid+·)) (news.map (AObj.renO (nid+·)))
def nvO:List AObj->Bool
 | []=>false
 | .void::_=>false
 | _=>true
theorem nvO_eq:∀ (j c:Nat) (os os':List AObj),nvO os=true->nvO os'=true->List.replicate j AObj.void++os=List.replicate c AObj.void++os'->j=c/\os=os'
 | 0,0,os,os',_,_,h=>⟨rfl,by simpa using h⟩
 | 0,c+1,os,os',h1,_,h=>by
  simp only [List.replicate_zero,List.nil_append,List.replicate_succ,List.cons_append] at h
  subst h;cases h1
 | j+1,0,os,os',_,h2,h=>by
  simp only [List.replicate_zero,List.nil_append,List.replicate_succ,List.cons_append] at h
  subst h;cases h2
 | j+1,c+1,os,os',h1,h2,h=>by
  simp only [List.replicate_succ,List.cons_append,List.cons.injEq,true_and] at h
  obtain ⟨e1,e2⟩:=nvO_eq j c os os' h1 h2 h
  exact ⟨by rw [e1],e2⟩
inductive CallQ (P:Program) (objs:List AObj) (nid:Nat):AV->List AV->AV->List AObj->Prop
 | old {f:AV} {args:List AV} {r:AV} (h:CallOk P objs f args r):CallQ P objs nid f args r []
 | new {f:AV} {args:List AV} {r:AV} {os:List AObj} (h:CallN1 P objs nid f args r os):CallQ P objs nid f args r os
inductive CallM (P:Program):Bool->List AObj->AV->List AV->AV->List AObj->Prop
 | ok {m:Bool} {objs:List AObj} {f:AV} {args:List AV} {r:AV} (h:CallOk P objs f args r):CallM P m objs f args r objs
 | mod (f:FuncId) (cap args:List AV) (base tail:List AObj) (r:AV) (base':List AObj) (h:CtrM P f (args++cap) base r base') (hb:(base.all fun o=>o.innO base.length)=true)
  (ha:((args++cap).all fun x=>x.inn base.length)=true):CallM P true (base++tail) (.clo (.func f) cap) args r (base'++tail)
 | new (f:FuncId) (cap args xs:List AV) (objs news:List AObj) (r:AV) (hs:Snaps [] (args++cap) xs) (h:CtrN P f xs r news):CallM P true objs (.clo (.func f) cap) args (r.shift objs.length) (objs++news.map (AObj.shiftO objs.length))
 | newF (f:FuncId) (cap args xs:List AV) (objs news:List AObj) (r:AV) (hs:Snaps objs (args++cap) xs) (h:CtrN P f xs r news) (hf:(news.all AObj.flat)=true) (hr:r.flatO=true):CallM P true objs (.clo (.func f) cap) args (r.shift objs.length) (objs++news.map (AObj.shiftO objs.length))
 | one (j:Nat) {objs:List AObj} {f:AV} {args:List AV} {r:AV} {os:List AObj} (h:CallN1 P objs (objs.length+j) f args r os) (hv:nvO os=true):CallM P false objs f args r (objs++(List.replicate j .void++os))
theorem CallM.no {objs:List AObj} {f:AV} {args:List AV} {r:AV} {objs':List AObj} (h:CallM P false objs f args r objs'):(objs'=objs/\CallOk P objs f args r) \/ ∃ j os,nvO os=true/\objs'=objs++(List.replicate j .void++os)/\CallN1 P objs (objs.length+j) f args r os:=by
 cases h with
 | ok h=>exact .inl ⟨rfl,h⟩
 | one j h hv=>exact .inr ⟨j,_,hv,rfl,h⟩
def callX (objs objs':List AObj) (cr:List AObj) (K:List AObj->Prop):Prop:=(objs'=objs/\K cr) \/ ∃ os,nvO os=true/\objs'=objs++(List.replicate cr.length .void++os)/\K (cr++os)
theorem CallM.cq {objs:List AObj} {f:AV} {args:List AV} {r:AV} {objs':List AObj} (h:CallM P false objs f args r objs') {cr:List AObj} {K:List AObj->Prop} (hX:callX objs objs' cr K):∃ nos:List AObj,CallQ P objs (objs.length+cr.length) f args r nos/\K (cr++nos):=by
 have nn:∀ {c:Nat} {os:List AObj},nvO os=true->objs ≠ objs++(List.replicate c .void++os):=by
  intro c os hv he
  have:=congrArg List.length he
  cases os with
  | nil=>cases hv
  | cons o os=>simp at this
 rcases h.no with ⟨rfl,hc⟩ | ⟨j,os,hv,rfl,hc⟩
 ·rcases hX with ⟨_,hK⟩ | ⟨os,hv,he,_⟩
  ·exact ⟨[],.old hc,by simpa using hK⟩
  ·exact absurd he (nn hv)
 ·rcases hX with ⟨he,_⟩ | ⟨os',hv',he,hK⟩
  ·exact absurd he.symm (nn hv)
  ·obtain ⟨rfl,rfl⟩:=nvO_eq _ _ _ _ hv hv' (List.append_cancel_left he)
   exact ⟨os,.new hc,hK⟩
theorem run_callFunc {f:FuncId} (h:Enters P f=true) (args:Array Value) (w:World):(callFunc f args).run P w = .ok (.enter f args) w:=by
 unfold Enters at h
 split at h
 ·rename_i fn hf
  simp only [Bool.and_eq_true,Bool.not_eq_true'] at h
  unfold callFunc
  simp only [Sem.run_bind,run_program,Result.andThen_ok,hf]
  have hb:fn.body.isNone=false:=by cases hb:fn.body <;> simp_all
  rw [if_neg (by rw [h.1];simp),if_neg (by rw [hb];simp)]
  rfl
 ·cases h
theorem call_form {o:Oper} {f:Operand} {args:List Operand} (hc:comp1 P o=some (.call f args)) :
 ∃ az ts,o.op = .call { callee:=.value f,args:=az,argTypes:=ts }/\az.toList=args:=by
 obtain ⟨dst,op,type,pos,after,guard⟩:=o
 dsimp only
 cases op with
 | call c =>
  obtain ⟨callee,az,ts⟩:=c
  cases callee with
  | value f' =>
   simp only [comp1,Option.some.injEq,COp.call.injEq] at hc
   obtain ⟨rfl,rfl⟩:=hc
   exact ⟨az,ts,rfl,rfl⟩
  | builtin b=>cases b <;> first | (simp [comp1] at hc;done) | (simp only [comp1] at hc;(repeat' (split at hc)) <;> simp at hc)
  | invoke r m=>simp [comp1] at hc
 | unOp op _ _=>cases op <;> simp [comp1] at hc
 | slice _ _ _ hi m=>cases m <;> cases hi <;> simp only [comp1] at hc <;> (repeat' (split at hc)) <;> simp at hc
 | store t x v=>simp [comp1] at hc
 | build t parts =>
  simp only [comp1] at hc
  repeat' (split at hc)
  all_goals first | (cases hc;done) | (simp [Option.bind_eq_some_iff,Option.map_eq_some_iff] at hc;done)
 | makeMap t rs=>cases rs <;> simp only [comp1] at hc <;> (repeat' (split at hc)) <;> simp at hc
 | _=>first | (simp [comp1] at hc;done) | (simp only [comp1] at hc;(repeat' (split at hc)) <;> simp at hc)
theorem call_main {o:Oper} {f:Operand} {args:List Operand} (hc:comp1 P o=some (.call f args)) {ev:Operand->AV} {ρ : Operand->Value}
 (he:∀ x,VR w L objs (ev x) (ρ x)):∀ (fid:FuncId) (cap:List AV),ev f = .clo (.func fid) cap->Enters P fid=true->∃ vs:Array Value,(execOp ρ o).run P w = .ok (.enter fid vs) w /\
  vs.size=(args.map ev++cap).length/\∀ i (h:i<(args.map ev++cap).length) (h2:i<vs.size),VR w L objs (args.map ev++cap)[i] vs[i]:=by
 obtain ⟨dst,op,type,pos,after,guard⟩:=o
 have:=call_form hc
 dsimp only at this
 obtain ⟨az,ts,rfl,rfl⟩:=this
 have hf:=he f
 intro fid cap hev hent
 rw [hev] at hf
 obtain ⟨cv,hcv,hcl,hcr⟩:=hf.clo_inv
 refine ⟨az.map ρ++cv,?_,by simp [hcl],fun i h1 h2=>?_⟩
 ·simp only [execOp,resolve,hcv,Deferred.ofValue,Sem.run_bind,Sem.run_pure,Result.andThen_ok,invoke,run_callFunc hent]
  simp
 ·by_cases hi:i<az.size
  ·rw [List.getElem_append_left (by simpa using hi),Array.getElem_append_left (by simpa using hi)]
   simpa using he _
  ·rw [List.getElem_append_right (by simpa using hi),Array.getElem_append_right (by simpa using hi)]
   simpa using hcr _ _ _
theorem call_mainB {o:Oper} {f:Operand} {args:List Operand} (hc:comp1 P o=some (.call f args)) {ev:Operand->AV} {ρ : Operand->Value}
 (he:∀ x,VR w L objs (ev x) (ρ x)):∀ (fid:FuncId) (us:List AV) (vs:List Value),ev f = .val (.func (.func fid) vs.toArray #[])->Enters P fid=true->us.length=vs.length->(∀ i (h:i<us.length) (h2:i<vs.length),VR w L objs us[i] vs[i]) ->
  ∃ xs:Array Value,(execOp ρ o).run P w = .ok (.enter fid xs) w /\
  xs.size=(us++args.map ev).length/\∀ i (h:i<(us++args.map ev).length) (h2:i<xs.size),VR w L objs (us++args.map ev)[i] xs[i]:=by
 obtain ⟨dst,op,type,pos,after,guard⟩:=o
 have:=call_form hc
 dsimp only at this
 obtain ⟨az,ts,rfl,rfl⟩:=this
 have hf:=he f
 intro fid us vs hev hent hul hur
 rw [hev] at hf
 have hcv : ρ f = .func (.func fid) vs.toArray #[]:=by
  generalize ρ f=v at hf
  cases hf with | tree h=>cases h;rfl
 refine ⟨vs.toArray++az.map ρ,?_,by simp [hul],fun i h1 h2=>?_⟩
 ·simp only [execOp,resolve,hcv,Deferred.ofValue,Sem.run_bind,Sem.run_pure,Result.andThen_ok,invoke,run_callFunc hent]
  simp
 ·by_cases hi:i<us.length
  ·rw [List.getElem_append_left hi,Array.getElem_append_left (by simpa [<-hul] using hi)]
   simpa using hur i hi (by omega)
  ·rw [List.getElem_append_right (by omega),Array.getElem_append_right (by simpa [<-hul] using hi)]
   simpa [hul] using he _
theorem call_ok {o:Oper} {f:Operand} {args:List Operand} (hc:comp1 P o=some (.call f args)) (g:Good F0 w0 w L objs) (hpre:∃ X,objs=objs0++X) {ev:Operand->AV} {ρ : Operand->Value}
 (he:∀ x,VR w L objs (ev x) (ρ x)) {r:AV} (h:CallOk P objs0 (ev f) (args.map ev) r) :
 ∃ fid vs,(execOp ρ o).run P w = .ok (.enter fid vs) w/\Calls P fid vs w fun e w'=>∃ v L',e = .returned v/\Good F0 w0 w' L' objs/\Later w L objs w' L' objs/\VR w' L' objs r v:=by
 obtain ⟨X,hX⟩:=hpre
 have hsub:Sub objs0 objs:=fun id g s e xs h=>by rw [hX,List.getElem?_append_left (List.getElem?_eq_some_iff.1 h).1];exact h
 have main:=call_main hc he
 have mainB:=call_mainB hc he
 generalize ev f=F at *
 cases h with
 | flat fid cap _ xs r hs hspec hfl =>
  obtain ⟨vs,hrun,hvl,hvr⟩:=main fid cap rfl hspec.1
  obtain ⟨hsl,hsn⟩:=hs.get
  refine ⟨fid,vs,hrun,(hspec.2 w (fun _=>True) vs (g.gl.mono fun _ _=>trivial) (by omega) fun i h1 h2=>?_).mono ?_⟩
  ·exact snap_ok g hsub (fun _ _=>trivial) (fun _ _ _ _ _ _ _ _ _ _=>trivial) (hsn i (by omega) h1) _ (hvr i (by omega) h2)
  ·rintro e w' ⟨v,rfl,hx,ht⟩
   exact ⟨v,L,rfl,g.ext' hx,.ext _ _ hx,.tree (flat_ok ht hfl)⟩
 | data fid cap _ xs r hs hspec =>
  obtain ⟨vs,hrun,hvl,hvr⟩:=main fid cap rfl hspec.1
  obtain ⟨hsl,hsn⟩:=hs.get
  refine ⟨fid,vs,hrun,(hspec.2 w L.F vs g.gl (by omega) fun i h1 h2=>?_).mono ?_⟩
  ·exact snap_ok (objs0:=[]) g (fun _ _ _ _ _ h=>by simp at h) (fun _ h=>h) (fun _ _ _ _ _ h=>by simp at h) (hsn i (by omega) h1) _ (hvr i (by omega) h2)
  ·rintro e w' ⟨v,rfl,hx,ht⟩
   exact ⟨v,L.grow w w',rfl,g.grow hx,.grow _ _ hx,.tree (ht.mono fun b hb hl=>hb.imp id fun h=>⟨h,hl⟩)⟩
 | read fid cap _ base tail r ho hctr hb ha =>
  obtain ⟨vs,hrun,hvl,hvr⟩:=main fid cap rfl hctr.1
  have ho':objs=base++(tail++X):=by rw [hX,ho,List.append_assoc]
  subst ho'
  refine ⟨fid,vs,hrun,(hctr.2.2 (inFD F0 L base.length) w w (L.cut base.length) vs rfl (mod_in g hb) hvl fun i h1 h2=>?_).mono ?_⟩
  ·have:=below_vr (m:=base.length) (L:=L) (L':=L.cut base.length) (fun _ h=>h) (fun id h=>if_pos h) (hvr i h1 h2) (List.all_eq_true.1 ha _ (List.getElem_mem _))
   rwa [List.take_left] at this
  ·rintro e w' ⟨v,L',rfl,g',hd,hv⟩
   obtain ⟨L'',g'',hl,up⟩:=mod_out g hctr.2.1 g' hd
   exact ⟨v,L'',rfl,g'',hl,up _ _ hv⟩
 | bnd fid vs us _ xs r hul hu hs hspec =>
  obtain ⟨vs,hrun,hvl,hvr⟩:=mainB fid us vs rfl hspec.1 hul fun i h1 h2=>.tree (hu w L.F i h1 h2)
  obtain ⟨hsl,hsn⟩:=hs.get
  refine ⟨fid,vs,hrun,(hspec.2 w L.F vs g.gl (by omega) fun i h1 h2=>?_).mono ?_⟩
  ·exact snap_ok (objs0:=[]) g (fun _ _ _ _ _ h=>by simp at h) (fun _ h=>h) (fun _ _ _ _ _ h=>by simp at h) (hsn i (by omega) h1) _ (hvr i (by omega) h2)
  ·rintro e w' ⟨v,rfl,hx,ht⟩
   exact ⟨v,L.grow w w',rfl,g.grow hx,.grow _ _ hx,.tree (ht.mono fun b hb hl=>hb.imp id fun h=>⟨h,hl⟩)⟩
theorem callM_ok {o:Oper} {f:Operand} {args:List Operand} (hc:comp1 P o=some (.call f args)) (g:Good F0 w0 w L objs) {ev:Operand->AV} {ρ : Operand->Value}
 (he:∀ x,VR w L objs (ev x) (ρ x)) {r:AV} {objs':List AObj} (h:CallM P true objs (ev f) (args.map ev) r objs') :
 ∃ fid vs,(execOp ρ o).run P w = .ok (.enter fid vs) w/\Calls P fid vs w fun e w'=>∃ v L',e = .returned v/\Good F0 w0 w' L' objs'/\Later w L objs w' L' objs'/\VR w' L' objs' r v:=by
 have main:=call_main hc he
 generalize hF:ev f=F at *
 generalize hA:args.map ev=A at *
 cases h with
 | ok h =>
  subst hF;subst hA
  exact call_ok (P:=P) hc g ⟨[],by simp⟩ he h
 | mod fid cap _ base tail _ base' hctr hb ha =>
  obtain ⟨vs,hrun,hvl,hvr⟩:=main fid cap rfl hctr.1
  refine ⟨fid,vs,hrun,(hctr.2.2 (inFD F0 L base.length) w w (L.cut base.length) vs rfl (mod_in g hb) hvl fun i h1 h2=>?_).mono ?_⟩
  ·have:=below_vr (m:=base.length) (L:=L) (L':=L.cut base.length) (fun _ h=>h) (fun id h=>if_pos h) (hvr i h1 h2) (List.all_eq_true.1 ha _ (List.getElem_mem _))
   rwa [List.take_left] at this
  ·rintro e w' ⟨v,L',rfl,g',hd,hv⟩
   obtain ⟨L'',g'',hl,up⟩:=mod_out g hctr.2.1 g' hd
   exact ⟨v,L'',rfl,g'',hl,up _ _ hv⟩
 | new fid cap _ xs _ news r hs hctr =>
  obtain ⟨vs,hrun,hvl,hvr⟩:=main fid cap rfl hctr.1
  obtain ⟨hsl,hsn⟩:=hs.get
  refine ⟨fid,vs,hrun,(hctr.2.2.2.2 w L.F vs g.gl (by omega) fun i h1 h2=>?_).mono ?_⟩
  ·exact snap_ok (objs0:=[]) g (fun _ _ _ _ _ h=>by simp at h) (fun _ h=>h) (fun _ _ _ _ _ h=>by simp at h) (hsn i (by omega) h1) _ (hvr i (by omega) h2)
  ·rintro e w' ⟨v,L',rfl,g',hv⟩
   obtain ⟨L2,g2,hl,up⟩:=new_out g g' hctr.2.1 hctr.2.2.1
   exact ⟨v,L2,rfl,g2,hl,up _ _ hv hctr.2.2.2.1⟩
 | newF fid cap _ xs _ news r hs hctr hf hrf =>
  obtain ⟨vs,hrun,hvl,hvr⟩:=main fid cap rfl hctr.1
  obtain ⟨hsl,hsn⟩:=hs.get
  refine ⟨fid,vs,hrun,(hctr.2.2.2.2 w (fun _=>True) vs (g.gl.mono fun _ _=>trivial) (by omega) fun i h1 h2=>?_).mono ?_⟩
  ·exact snap_ok g (fun _ _ _ _ _ h=>h) (fun _ _=>trivial) (fun _ _ _ _ _ _ _ _ _ _=>trivial) (hsn i (by omega) h1) _ (hvr i (by omega) h2)
  ·rintro e w' ⟨v,L',rfl,g',hv⟩
   obtain ⟨L2,g2,hl,up⟩:=new_out g (good_flat (F':=L.F) g' hf (fun b _ hb=>(g.gl b hb).1)) hctr.2.1 hctr.2.2.1
   exact ⟨v,L2,rfl,g2,hl,up _ _ (flatO_vr (L:=L') (L':=⟨fun b=>L'.F b/\Globs.tab b ≠ [],L'.blk⟩) rfl hv hrf) hctr.2.2.2.1⟩
theorem callN1_ok {os:List AObj} {o:Oper} {f:Operand} {args:List Operand} (hc:comp1 P o=some (.call f args)) (g:Good F0 w0 w L objs) (hsub:Sub objs0 objs) (hn:nid+os.length<=objs.length) (hv:∀ k,k<os.length->objs[nid+k]? = some .void) {ev:Operand->AV} {ρ : Operand->Value}
 (he:∀ x,VR w L objs (ev x) (ρ x)) {r:AV} (h:CallN1 P objs0 nid (ev f) (args.map ev) r os) :
 ∃ fid vs,(execOp ρ o).run P w = .ok (.enter fid vs) w/\Calls P fid vs w fun e w'=>∃ v L',e = .returned v/\Good F0 w0 w' L' (putL objs nid os)/\Later w L objs w' L' (putL objs nid os)/\VR w' L' (putL objs nid os) r v:=by
 have main:=call_main hc he
 generalize hF:ev f=F at *
 generalize hA:args.map ev=A at *
 cases h with
 | data fid cap _ xs r o hs hctr hi hr =>
  obtain ⟨vs,hrun,hvl,hvr⟩:=main fid cap rfl hctr.1
  obtain ⟨hsl,hsn⟩:=hs.get
  refine ⟨fid,vs,hrun,(hctr.2.2.2.2 w L.F vs g.gl (by omega) fun i h1 h2=>?_).mono ?_⟩
  ·exact snap_ok (objs0:=[]) g (fun _ _ _ _ _ h=>by simp at h) (fun _ h=>h) (fun _ _ _ _ _ h=>by simp at h) (hsn i (by omega) h1) _ (hvr i (by omega) h2)
  ·rintro e w' ⟨v,L',rfl,g',hv'⟩
   obtain ⟨L2,g2,hl,up⟩:=new_set g (hv 0 (by simp)) g' hi
   exact ⟨v,L2,rfl,g2,hl,up _ _ hv' hr⟩
 | flat fid cap _ xs r o hs hctr hi hr hf hrf =>
  obtain ⟨vs,hrun,hvl,hvr⟩:=main fid cap rfl hctr.1
  obtain ⟨hsl,hsn⟩:=hs.get
  refine ⟨fid,vs,hrun,(hctr.2.2.2.2 w (fun _=>True) vs (g.gl.mono fun _ _=>trivial) (by omega) fun i h1 h2=>?_).mono ?_⟩
  ·exact snap_ok g hsub (fun _ _=>trivial) (fun _ _ _ _ _ _ _ _ _ _=>trivial) (hsn i (by omega) h1) _ (hvr i (by omega) h2)
  ·rintro e w' ⟨v,L',rfl,g',hv'⟩
   obtain ⟨L2,g2,hl,up⟩:=new_set g (hv 0 (by simp)) (good_flat (F':=L.F) g' (by simp [hf]) (fun b _ hb=>(g.gl b hb).1)) hi
   exact ⟨v,L2,rfl,g2,hl,up _ _ (flatO_vr (L:=L') (L':=⟨fun b=>L'.F b/\Globs.tab b ≠ [],L'.blk⟩) rfl hv' hrf) hr⟩
 | many fid cap _ xs r news hs hctr hi hr =>
  obtain ⟨vs,hrun,hvl,hvr⟩:=main fid cap rfl hctr.1
  obtain ⟨hsl,hsn⟩:=hs.get
  refine ⟨fid,vs,hrun,(hctr.2.2.2.2 w L.F vs g.gl (by omega) fun i h1 h2=>?_).mono ?_⟩
  ·exact snap_ok (objs0:=[]) g (fun _ _ _ _ _ h=>by simp at h) (fun _ h=>h) (fun _ _ _ _ _ h=>by simp at h) (hsn i (by omega) h1) _ (hvr i (by omega) h2)
  ·rintro e w' ⟨v,L',rfl,g',hv'⟩
   obtain ⟨L2,g2,hl,up⟩:=new_sets g (by simpa using hn) (fun k hk=>hv k (by simpa using hk)) g' hi
   exact ⟨v,L2,rfl,g2,hl,up _ _ hv' hr⟩
structure COper where
 dst:Option Nat
 guard:Option (Nat × Bool)
 op:COp
 deriving Inhabited
def compO (P:Program) (ops:Array Oper) (o:Oper):Option COper :=
 (compB P o).bind fun c =>
  match o.guard with
  | none=>some ⟨o.dst,none,c⟩
  | some (j,want)=>((ops[j]?).bind (·.dst)).map fun t=>⟨o.dst,some (t,want),c⟩
def St.put (tmps:List AV) (dst:Option Nat) (v:AV):List AV :=
 match dst with
 | some d=>tmps.set d v
 | none=>tmps
def Rstep (P:Program) (c:COper) (K:St->Prop) (st:St):Prop :=
 match c.op with
 | .call f args=>∃ r objs',CallM P true st.objs (St.ev st.tmps f) (args.map (St.ev st.tmps)) r objs'/\K ⟨St.put st.tmps c.dst r,objs'⟩
 | op=>match step1 st.objs (St.ev st.tmps) op with
  | some (r,objs)=>K ⟨St.put st.tmps c.dst r,objs⟩
  | none=>False
def Rops (P:Program):List COper->(St->Prop)->St->Prop
 | [],K,st=>K st
 | c::rest,K,st =>
  match c.guard with
  | none=>Rstep P c (Rops P rest K) st
  | some (t,want)=>match gdB (st.tmps.getD t .junk) with
   | some b=>(b=some want->Rstep P c (Rops P rest K) st)/\(b ≠ some want->Rops P rest K ⟨St.put st.tmps c.dst nov,st.objs⟩)
   | none=>False
def Lift (F0:FD) (w0:World) (Q:Exit->St->Prop) (e:Exit) (a:Act) (w:World):Prop:=∃ st,Q e st/\Sim F0 w0 st a w
theorem sim_put {st:St} {a:Act} {w w':World} {L L':Lay} {objs':List AObj} (hd:a.defers=F0.ds) (hs:a.tmps.size=st.tmps.length) (ht:∀ t (h:t<st.tmps.length),VR w L st.objs st.tmps[t] (a.tmps.getD t undef))
 (g:Good F0 w0 w' L' objs') (hl:Later w L st.objs w' L' objs') (dst:Option Nat) {r:AV} {v:Value} (hv:VR w' L' objs' r v):Sim F0 w0 ⟨St.put st.tmps dst r,objs'⟩ (a.put dst v) w':=by
 refine ⟨?_,L',g,?_,fun t h=>?_⟩
 ·cases dst <;> exact hd
 ·cases dst <;> simp [St.put,Act.put,hs]
 ·cases dst with
  | none=>exact (ht t h).stay hl
  | some d =>
   simp only [St.put,List.length_set] at h
   simp only [St.put,Act.put]
   by_cases e:d=t
   ·subst e
    rw [List.getElem_set_self,Array.getD_eq_getD_getElem?,Array.getElem?_setIfInBounds_self_of_lt (by omega)]
    exact hv
   ·rw [List.getElem_set_ne e,Array.getD_eq_getD_getElem?,Array.getElem?_setIfInBounds_ne e,<-Array.getD_eq_getD_getElem?]
    exact (ht t h).stay hl
theorem rstep_ok {o:Oper} {c:COper} (hc:Comp1 P o c.op) (hdst:o.dst=c.dst) {K:St->Prop} {st:St} {a:Act} {w:World} (hsim:Sim F0 w0 st a w) (h:Rstep P c K st)
 {next:Act->World->Prop} {Q:Exit->Act->World->Prop} (hn:∀ st' a' w',K st'->Sim F0 w0 st' a' w'->next a' w'):o.wp P a w next Q:=by
 obtain ⟨hd,L,g,hs,ht⟩:=hsim
 have he:=ev_ok (objs:=st.objs) g.gl hs ht
 have plain:∀ op,op=c.op->(match step1 st.objs (St.ev st.tmps) op with | some (r,objs)=>K ⟨St.put st.tmps c.dst r,objs⟩ | none=>False)->o.wp P a w next Q:=by
  rintro op rfl h
  split at h
  ·rename_i r objs' hq
   obtain ⟨nx,w',L',hr,hg,hl,hv⟩:=step1_ok (P:=P) hc g he hq
   unfold Oper.wp
   rw [hr]
   rcases hv with ⟨v,rfl,hv⟩ | ⟨rfl,rfl⟩
   ·rw [Oper.upon_value,hdst]
    exact hn _ _ _ h (sim_put hd hs ht hg hl c.dst hv)
   ·rw [Oper.upon_skip,hdst]
    exact hn _ _ _ h (sim_put hd hs ht hg hl c.dst (.junk _))
  ·exact h.elim
 unfold Rstep at h
 split at h
 ·rename_i f args hop
  rw [hop] at hc
  obtain ⟨r,objs',hok,hK⟩:=h
  obtain ⟨fid,vs,hr,hcall⟩:=callM_ok (P:=P) hc.call g he hok
  unfold Oper.wp
  rw [hr,Oper.upon_enter]
  refine hcall.mono ?_
  rintro e w' ⟨v,L',rfl,hg,hl,hv⟩
  simp only
  rw [hdst]
  exact hn _ _ _ hK (sim_put hd hs ht hg hl c.dst hv)
 ·exact plain _ rfl h
theorem wanted_of {ops:Array Oper} {o:Oper} {j:Nat} {want:Bool} (hg:o.guard=some (j,want)) {t:Nat} (ht:(ops[j]?).bind (·.dst)=some t) {tmps:Array Value} {b:Option Bool} (hb:boolOf (tmps.getD t undef)=b) :
 Region.wanted o (yielded ops tmps)=(b == some want):=by
 unfold Region.wanted
 rw [hg]
 simp only [yielded,ht,Option.bind_some]
 rw [Array.getD_eq_getD_getElem?] at hb
 subst hb
 cases h:tmps[t]? with
 | none=>simp [undef,boolOf]
 | some x=>cases x <;> simp [boolOf]
theorem rops_ok (ops:Array Oper) {K:St->Prop}:∀ (l:List Oper) (cs:List COper) (k:Nat),(∀ j,l[j]? = ops[k+j]?)->l.mapM (compO P ops)=some cs->∀ (st:St) (a:Act) (w:World),Sim F0 w0 st a w->Rops P cs K st ->
 wpOps P ops (Lift F0 w0 fun e st=>e = .normal/\K st) (List.range' k l.length) a w
 | [],cs,k,hl,hm,st,a,w,hsim,h=>by
  simp at hm;subst hm
  exact ⟨st,⟨rfl,h⟩,hsim⟩
 | o::l,cs,k,hl,hm,st,a,w,hsim,h=>by
  simp only [List.mapM_cons,Option.bind_eq_bind,Option.bind_eq_some_iff,Option.pure_def,Option.some.injEq] at hm
  obtain ⟨c,hc,cs',hcs,rfl⟩:=hm
  have h0:ops[k]? = some o:=by simpa using (hl 0).symm
  have hl':∀ j,l[j]? = ops[k+1+j]?:=fun j=>by have:=hl (j+1);simpa [Nat.add_assoc,Nat.add_comm 1 j] using this
  have ih:=rops_ok ops (K:=K) l cs' (k+1) hl' hcs
  simp only [List.length_cons,List.range'_succ,wpOps,h0]
  simp only [compO,Option.bind_eq_some_iff] at hc
  obtain ⟨op,hop,hc⟩:=hc
  cases hg:o.guard with
  | none =>
   rw [hg] at hc
   simp only [Option.some.injEq] at hc
   subst hc
   have hw:Region.wanted o (yielded ops a.tmps)=true:=by unfold Region.wanted;rw [hg]
   rw [hw,if_pos rfl]
   simp only [Rops] at h
   exact .inl (rstep_ok (P:=P) (c:=⟨o.dst,none,op⟩) (.ofB hop) rfl hsim h fun st' a' w' hK hs=>ih st' a' w' hs hK)
  | some q =>
   obtain ⟨j,want⟩:=q
   rw [hg] at hc
   simp only [Option.map_eq_some_iff] at hc
   obtain ⟨t,htt,rfl⟩:=hc
   simp only [Rops] at h
   split at h
   ·rename_i b hb
    have hbv:boolOf (a.tmps.getD t undef)=b:=by
     obtain ⟨hd,L,g,hs,ht⟩:=hsim
     exact gdB_ok (ev_ok (objs:=st.objs) g.gl hs ht (.tmp t)) hb
    have hw:=wanted_of hg htt hbv
    by_cases e:b=some want
    ·subst e
     rw [hw];simp only [beq_self_eq_true,if_true]
     exact .inl (rstep_ok (P:=P) (c:=⟨o.dst,some (t,want),op⟩) (.ofB hop) rfl hsim (h.1 rfl) fun st' a' w' hK hs=>ih st' a' w' hs hK)
    ·rw [hw,if_neg (by simpa using e)]
     refine ih _ _ _ ?_ (h.2 e)
     obtain ⟨hd,L,g,hs,ht⟩:=hsim
     exact sim_put hd hs ht g (.refl _ _ _) _ (.tree (.val _))
   ·exact h.elim
end Dak
namespace Dak
open Go Go.RowKit
variable [Globs]
variable {P : Program} {F0 : FD} {w0 w : World} {L : Lay} {objs objs0 : List AObj} {nid : Nat}
def COp.opnds:COp->List Operand
 | .mov x | .box _ x | .load _ _ x | .nilCheck x | .neg x | .lnot x | .conv _ x | .fieldAddr _ x | .field _ _ _ x | .extract x _ | .len x | .mlen _ x | .str x | .mkch x | .rng _ x | .nxt x | .ent x=>[x]
 | .pick c a b=>[c,a,b]
 | .alloc .. | .lenA _ | .bad | .mnew _=>[]
 | .mget _ _ _ m k=>[m,k]
 | .mset _ m k v=>[m,k,v]
 | .aeq _ _ x y | .ibin _ x y | .bbin _ x y | .idxS _ x y | .idxA _ _ x y | .idxV _ _ _ x y | .imin x y | .imax x y | .store _ x y | .append _ _ _ x y | .isNil _ _ x y | .copy _ x y | .appendZ _ _ _ _ x y=>[x,y]
 | .sliceA _ x lo hi=>x::(lo.toList++hi.toList)
 | .slice _ x lo hi=>x::(lo.toList++hi.toList)
 | .slice3 _ x lo hi mx=>x::hi::mx::lo.toList
 | .empS=>[]
 | .appE _ _ _ x y=>[x,y]
 | .mkslice _ _ _ _ l c=>[l,c]
 | .build _ ps=>ps.map (·.2.2)
 | .bslice _ _ ps=>ps
 | .mkfunc _ ps=>ps
 | .call f args=>f::args
theorem fillA_congr {ev ev':Operand->AV}:∀ (ps:List (Nat × Nat × Operand)) (cs:List AV),(∀ x ∈ ps.map (·.2.2),ev x=ev' x)->fillA ev cs ps=fillA ev' cs ps
 | [],_,_=>rfl
 | (o,n,x)::ps,cs,h=>by
  have hx:ev x=ev' x:=h x (by simp)
  simp only [fillA,hx]
  split
  ·exact fillA_congr ps _ fun y hy=>h y (by simp at hy ⊢;exact .inr hy)
  ·rfl
theorem all_congr' {ev ev':Operand->AV} {f:AV->Bool} (ps:List Operand) (h:∀ x ∈ ps,ev x=ev' x):(ps.all fun x=>f (ev x))=ps.all fun x=>f (ev' x):=by
 induction ps with
 | nil=>rfl
 | cons x ps ih=>simp only [List.all_cons];rw [h x (by simp),ih fun y hy=>h y (by simp [hy])]
theorem qstepK_congr {kno:List AObj} {ev ev':Operand->AV} (c:COp) (h:∀ x ∈ c.opnds,ev x=ev' x):qstepK kno objs ev nid c=qstepK kno objs ev' nid c:=by
 unfold qstepK
 have hst:∀ x ∈ c.stores,ev x=ev' x:=by
  intro x hx
  cases c <;> simp [COp.stores,COp.opnds] at hx h ⊢ <;> first
   | (subst hx;exact h)
   | (subst hx;exact h.2)
   | (obtain ⟨a,b,hx⟩:=hx;exact h _ _ _ hx)
   | (exact h x hx)
 rw [all_congr' (f:=fun a=>a.kn kno) _ hst]
 split
 ·cases c with
  | build z ps =>
   simp only [qop]
   rw [fillA_congr ps z h]
  | bslice e s ps =>
   have h1:=all_congr' (f:=fun a=>a.fits && a.cells.length == s) ps h
   have h2:=all_congr' (f:=fun a=>a.isT) ps h
   have h3:ps.map ev=ps.map ev':=List.map_congr_left h
   simp only [qop,h1,h2,h3]
  | mkfunc fn ps =>
   have h3:ps.map ev=ps.map ev':=List.map_congr_left h
   simp only [qop,h3]
  | slice s x lo hi =>
   have hx:ev x=ev' x:=h x (by simp [COp.opnds])
   have hlo:lo.map ev=lo.map ev':=by
    cases lo with
    | none=>rfl
    | some y=>simp only [Option.map_some];rw [h y (by simp [COp.opnds])]
   have hhi:hi.map ev=hi.map ev':=by
    cases hi with
    | none=>rfl
    | some y=>simp only [Option.map_some];rw [h y (by simp [COp.opnds])]
   simp only [qop,hx,hlo,hhi]
  | sliceA s x lo hi =>
   have hx:ev x=ev' x:=h x (by simp [COp.opnds])
   have hlo:lo.map ev=lo.map ev':=by
    cases lo with
    | none=>rfl
    | some y=>simp only [Option.map_some];rw [h y (by simp [COp.opnds])]
   have hhi:hi.map ev=hi.map ev':=by
    cases hi with
    | none=>rfl
    | some y=>simp only [Option.map_some];rw [h y (by simp [COp.opnds])]
   simp only [qop,hx,hlo,hhi]
  | slice3 s x lo hi mx =>
   have hx:ev x=ev' x:=h x (by simp [COp.opnds])
   have hhi:ev hi=ev' hi:=h hi (by simp [COp.opnds])
   have hmx:ev mx=ev' mx:=h mx (by simp [COp.opnds])
   have hlo:lo.map ev=lo.map ev':=by
    cases lo with
    | none=>rfl
    | some y=>simp only [Option.map_some];rw [h y (by simp [COp.opnds])]
   simp only [qop,hx,hlo,hhi,hmx]
  | _=>simp only [COp.opnds,List.mem_cons,List.not_mem_nil,or_false,forall_eq_or_imp,forall_eq] at h <;> simp only [qop,h]
 ·rfl
theorem qstep_congr {ev ev':Operand->AV} (c:COp) (h:∀ x ∈ c.opnds,ev x=ev' x):qstep objs ev nid c=qstep objs ev' nid c:=qstepK_congr (kno:=objs) c h
def Val (P:Program) (kno objs0:List AObj) (ev:Operand->AV) (nid:Nat) (op:COp) (r:AV) (nos:List AObj):Prop :=
 (∃ f args,op = .call f args/\CallQ P objs0 nid (ev f) (args.map ev) r nos) \/ ∃ no:Option AObj,nos=no.toList/\qstepK kno objs0 ev nid op=some (r,no)
theorem Val.congr {kno:List AObj} {ev ev':Operand->AV} {op:COp} {r:AV} {no:List AObj} (h:∀ x ∈ op.opnds,ev x=ev' x) (hv:Val P kno objs0 ev nid op r no):Val P kno objs0 ev' nid op r no:=by
 rcases hv with ⟨f,args,rfl,hc⟩ | ⟨n1,hn1,hq⟩
 ·refine .inl ⟨f,args,rfl,?_⟩
  have h1:args.map ev'=args.map ev:=List.map_congr_left fun x hx=>(h x (by simp [COp.opnds,hx])).symm
  rw [h1,<-h f (by simp [COp.opnds])];exact hc
 ·exact .inr ⟨n1,hn1,by rw [<-qstepK_congr op h];exact hq⟩
def Qops (P:Program) (objs0:List AObj):List COper->(List AV->List AObj->Prop)->List AV->List AObj->Prop
 | [],K,tmps,cr=>K tmps cr
 | c::rest,K,tmps,cr =>
  let go:Prop:=match c.op with
   | .call f args=>∃ r no,CallQ P objs0 (objs0.length+cr.length) (St.ev tmps f) (args.map (St.ev tmps)) r no/\Qops P objs0 rest K (St.put tmps c.dst r) (cr++no)
   | op=>match qstepK (objs0++cr) objs0 (St.ev tmps) (objs0.length+cr.length) op with
    | some (r,none)=>Qops P objs0 rest K (St.put tmps c.dst r) cr
    | some (r,some o)=>Qops P objs0 rest K (St.put tmps c.dst r) (cr++[o])
    | none=>False
  match c.guard with
  | none=>go
  | some (t,want)=>match gdB (tmps.getD t .junk) with
   | some b=>(b=some want->go)/\(b ≠ some want->Qops P objs0 rest K (St.put tmps c.dst nov) cr)
   | none=>False
def GOn (tmps:List AV):Option (Nat × Bool)->Prop
 | none=>True
 | some (t,want)=>gdB (tmps.getD t .junk)=some (some want)
def GOff (tmps:List AV):Option (Nat × Bool)->Prop
 | none=>False
 | some (t,want)=>∃ o,gdB (tmps.getD t .junk)=some o/\o ≠ some want
inductive DT (P:Program) (kno objs0:List AObj):Nat->List AV->List COper->List (AV × List AObj)->Prop
 | nil (nid tmps):DT P kno objs0 nid tmps [] []
 | step (nid tmps c rest r no tr) (hg:GOn tmps c.guard) (hv:Val P kno objs0 (St.ev tmps) nid c.op r no) (h:DT P kno objs0 (nid+no.length) (St.put tmps c.dst r) rest tr):DT P kno objs0 nid tmps (c::rest) ((r,no)::tr)
 | skip (nid tmps c rest tr) (hg:GOff tmps c.guard) (h:DT P kno objs0 nid (St.put tmps c.dst nov) rest tr):DT P kno objs0 nid tmps (c::rest) ((nov,[])::tr)
def foldPut (tmps:List AV):List COper->List (AV × List AObj)->List AV
 | c::cs,x::tr=>foldPut (St.put tmps c.dst x.1) cs tr
 | _,_=>tmps
theorem sub_app (a b:List AObj):Sub a (a++b):=fun id g s e xs h=>by rw [List.getElem?_append_left (List.getElem?_eq_some_iff.1 h).1];exact h
theorem qops_trace {K:List AV->List AObj->Prop}:∀ (cs:List COper) (tmps:List AV) (cr:List AObj),Qops P objs0 cs K tmps cr ->
 ∃ tr,DT P (objs0++(cr++tr.flatMap (·.2))) objs0 (objs0.length+cr.length) tmps cs tr/\K (foldPut tmps cs tr) (cr++tr.flatMap (·.2))
 | [],tmps,cr,h=>⟨[],.nil _ _,by simpa [Qops,foldPut] using h⟩
 | c::rest,tmps,cr,h=>by
  have go:(match c.op with
   | .call f args=>∃ r no,CallQ P objs0 (objs0.length+cr.length) (St.ev tmps f) (args.map (St.ev tmps)) r no/\Qops P objs0 rest K (St.put tmps c.dst r) (cr++no)
   | op=>match qstepK (objs0++cr) objs0 (St.ev tmps) (objs0.length+cr.length) op with
    | some (r,none)=>Qops P objs0 rest K (St.put tmps c.dst r) cr
    | some (r,some o)=>Qops P objs0 rest K (St.put tmps c.dst r) (cr++[o])
    | none=>False)->GOn tmps c.guard->∃ tr,DT P (objs0++(cr++tr.flatMap (·.2))) objs0 (objs0.length+cr.length) tmps (c::rest) tr/\K (foldPut tmps (c::rest) tr) (cr++tr.flatMap (·.2)):=by
   intro h hg
   have plain:∀ op,op=c.op->(match qstepK (objs0++cr) objs0 (St.ev tmps) (objs0.length+cr.length) op with
    | some (r,none)=>Qops P objs0 rest K (St.put tmps c.dst r) cr
    | some (r,some o)=>Qops P objs0 rest K (St.put tmps c.dst r) (cr++[o])
    | none=>False)->∃ tr,DT P (objs0++(cr++tr.flatMap (·.2))) objs0 (objs0.length+cr.length) tmps (c::rest) tr/\K (foldPut tmps (c::rest) tr) (cr++tr.flatMap (·.2)):=by
    rintro _ rfl h
    split at h
    ·rename_i r hq
     obtain ⟨tr,h1,h2⟩:=qops_trace rest _ cr h
     exact ⟨(r,[])::tr,.step _ _ _ _ _ _ _ hg (.inr ⟨none,rfl,qstepK_mono (by rw [<-List.append_assoc];exact sub_app _ _) hq⟩) (by simpa using h1),by simpa [foldPut] using h2⟩
    ·rename_i r o hq
     obtain ⟨tr,h1,h2⟩:=qops_trace rest _ _ h
     exact ⟨(r,[o])::tr,.step _ _ _ _ _ _ _ hg (.inr ⟨some o,rfl,qstepK_mono (by rw [<-List.append_assoc];exact sub_app _ _) hq⟩) (by simpa [Nat.add_assoc] using h1),by simpa [foldPut] using h2⟩
    ·exact h.elim
   split at h
   ·rename_i f args hop
    obtain ⟨r,no,hc,h⟩:=h
    obtain ⟨tr,h1,h2⟩:=qops_trace rest _ _ h
    exact ⟨(r,no)::tr,.step _ _ _ _ _ _ _ hg (.inl ⟨f,args,hop,hc⟩) (by simpa [Nat.add_assoc] using h1),by simpa [foldPut] using h2⟩
   ·exact plain _ rfl h
  simp only [Qops] at h
  cases hgd:c.guard with
  | none=>rw [hgd] at h;exact go h (by rw [hgd];trivial)
  | some q =>
   obtain ⟨t,want⟩:=q
   rw [hgd] at h
   simp only at h
   split at h
   ·rename_i b hb
    by_cases e:b=some want
    ·subst e
     exact go (h.1 rfl) (by rw [hgd];exact hb)
    ·obtain ⟨tr,h1,h2⟩:=qops_trace rest _ cr (h.2 e)
     exact ⟨(nov,[])::tr,.skip _ _ _ _ _ (by rw [hgd];exact ⟨b,hb,e⟩) h1,by simpa [foldPut] using h2⟩
   ·exact h.elim
theorem DT.len {nid:Nat} {tmps:List AV} {cs:List COper} {tr:List (AV × List AObj)} {kno:List AObj} (h:DT P kno objs0 nid tmps cs tr):tr.length=cs.length:=by
 induction h with
 | nil=>rfl
 | step _ _ _ _ _ _ _ _ _ _ ih=>simp [ih]
 | skip _ _ _ _ _ _ _ ih=>simp [ih]
def cnt (tr:List (AV × List AObj)) (i:Nat):Nat:=((tr.take i).flatMap (·.2)).length
theorem DT.get {nid:Nat} {tmps:List AV} {cs:List COper} {tr:List (AV × List AObj)} {kno:List AObj} (h:DT P kno objs0 nid tmps cs tr):∀ (i:Nat) (c:COper),cs[i]? = some c ->
 ∃ r no,tr[i]? = some (r,no)/\((GOn (foldPut tmps (cs.take i) (tr.take i)) c.guard/\Val P kno objs0 (St.ev (foldPut tmps (cs.take i) (tr.take i))) (nid+cnt tr i) c.op r no) \/
  (GOff (foldPut tmps (cs.take i) (tr.take i)) c.guard/\r=nov/\no=[])):=by
 induction h with
 | nil=>intro i c hc;simp at hc
 | step nid tmps c0 rest r no tr hg hv h ih =>
  intro i c hc
  cases i with
  | zero=>simp at hc;subst hc;exact ⟨r,no,rfl,.inl ⟨by simpa [foldPut] using hg,by simpa [foldPut,cnt] using hv⟩⟩
  | succ i =>
   obtain ⟨r',no',h1,h2⟩:=ih i c (by simpa using hc)
   refine ⟨r',no',by simpa using h1,?_⟩
   have e:nid+cnt ((r,no)::tr) (i+1)=nid+no.length+cnt tr i:=by
    simp [cnt,Nat.add_assoc]
   rw [e]
   simpa [foldPut] using h2
 | skip nid tmps c0 rest tr hg h ih =>
  intro i c hc
  cases i with
  | zero=>simp at hc;subst hc;exact ⟨nov,[],rfl,.inr ⟨by simpa [foldPut] using hg,rfl,rfl⟩⟩
  | succ i =>
   obtain ⟨r',no',h1,h2⟩:=ih i c (by simpa using hc)
   refine ⟨r',no',by simpa using h1,?_⟩
   have e:nid+cnt ((nov,[])::tr) (i+1)=nid+cnt tr i:=by simp [cnt]
   rw [e]
   simpa [foldPut] using h2
end Dak
namespace Dak
open Go Go.RowKit
variable [Globs]
variable {P : Program} {F0 : FD} {w0 w : World} {L : Lay} {objs objs0 : List AObj} {nid : Nat}
def look (tmps:List AV) (cs:List COper) (tr:List (AV × List AObj)) (X:Nat->Bool) (t:Nat):AV :=
 match (List.range cs.length).find? (fun j=>X j && ((cs[j]?).bind (·.dst) == some t)) with
 | some j=>((tr[j]?).map (·.1)).getD .junk
 | none=>tmps.getD t .junk
def distinct (cs:List COper):Prop:=∀ (i j t:Nat),(cs[i]?).bind (·.dst)=some t->(cs[j]?).bind (·.dst)=some t->i=j
theorem find_congr {l:List Nat} {p q:Nat->Bool} (h:∀ x ∈ l,p x=q x):l.find? p=l.find? q:=by
 induction l with
 | nil=>rfl
 | cons x l ih =>
  rw [List.find?_cons,List.find?_cons,h x (by simp),ih fun y hy=>h y (by simp [hy])]
theorem look_congr {tmps:List AV} {cs:List COper} {tr:List (AV × List AObj)} {X Y:Nat->Bool} {t:Nat} (h:∀ j,(cs[j]?).bind (·.dst)=some t->X j=Y j):look tmps cs tr X t=look tmps cs tr Y t:=by
 unfold look
 rw [find_congr (q:=fun j=>Y j && ((cs[j]?).bind (·.dst) == some t))]
 intro j _
 by_cases hj:(cs[j]?).bind (·.dst)=some t
 ·rw [h j hj]
 ·have:((cs[j]?).bind (·.dst) == some t)=false:=by simpa using hj
  rw [this];simp
theorem look_self {tmps:List AV} {cs:List COper} {tr:List (AV × List AObj)} {X:Nat->Bool} {t i:Nat} (hd:distinct cs) (hi:(cs[i]?).bind (·.dst)=some t) (hX:X i=true):look tmps cs tr X t=((tr[i]?).map (·.1)).getD .junk:=by
 unfold look
 have hlt:i<cs.length:=by
  rcases Nat.lt_or_ge i cs.length with h | h
  ·exact h
  ·rw [List.getElem?_eq_none h] at hi;cases hi
 cases hf:(List.range cs.length).find? (fun j=>X j && ((cs[j]?).bind (·.dst) == some t)) with
 | none =>
  rw [List.find?_eq_none] at hf
  have:=hf i (by simpa using hlt)
  simp [hX,hi] at this
 | some j =>
  have:=List.find?_some hf
  simp only [Bool.and_eq_true,beq_iff_eq] at this
  rw [hd i j t hi this.2]
theorem put_getD {tmps:List AV} {dst:Option Nat} {r:AV} {t:Nat} (ht:t<tmps.length):(St.put tmps dst r).getD t .junk=if dst=some t then r else tmps.getD t .junk:=by
 cases dst with
 | none=>rw [if_neg (by simp)];rfl
 | some d =>
  simp only [St.put]
  by_cases e:d=t
  ·subst e;rw [if_pos rfl,List.getD_eq_getElem?_getD,List.getElem?_set_self ht];rfl
  ·rw [if_neg (by simpa using e),List.getD_eq_getElem?_getD,List.getElem?_set_ne e,<-List.getD_eq_getElem?_getD]
theorem put_len (tmps:List AV) (dst:Option Nat) (r:AV):(St.put tmps dst r).length=tmps.length:=by cases dst <;> simp [St.put]
theorem foldPut_len:∀ (cs:List COper) (tr:List (AV × List AObj)) (tmps:List AV),(foldPut tmps cs tr).length=tmps.length
 | [],_,_=>rfl
 | _::_,[],_=>rfl
 | c::cs,x::tr,tmps=>by simp only [foldPut];rw [foldPut_len cs tr,put_len]
theorem foldPut_snoc:∀ (i:Nat) (cs:List COper) (tr:List (AV × List AObj)) (tmps:List AV) (c:COper) (x:AV × List AObj),cs[i]? = some c->tr[i]? = some x ->
 foldPut tmps (cs.take (i+1)) (tr.take (i+1))=St.put (foldPut tmps (cs.take i) (tr.take i)) c.dst x.1
 | 0,c'::cs,x'::tr,tmps,c,x,hc,hx=>by simp at hc hx;subst hc;subst hx;simp [foldPut]
 | i+1,c'::cs,x'::tr,tmps,c,x,hc,hx=>by
  have:=foldPut_snoc i cs tr (St.put tmps c'.dst x'.1) c x (by simpa using hc) (by simpa using hx)
  simpa [foldPut] using this
 | _,[],_,_,_,_,hc,_=>by simp at hc
 | 0,_::_,[],_,_,_,_,hx=>by simp at hx
 | _+1,_::_,[],_,_,_,_,hx=>by simp at hx
theorem foldPut_look {tmps:List AV} {cs:List COper} {tr:List (AV × List AObj)} (hd:distinct cs) (hl:tr.length=cs.length):∀ (i:Nat),i<=cs.length->∀ t,t<tmps.length ->
 (foldPut tmps (cs.take i) (tr.take i)).getD t .junk=look tmps cs tr (fun j=>decide (j<i)) t
 | 0,_,t,ht=>by
  simp only [List.take_zero,foldPut]
  unfold look
  rw [List.find?_eq_none.2 (by simp)]
 | i+1,hi,t,ht=>by
  have ih:=foldPut_look hd hl i (by omega) t ht
  have h1:cs[i]? = some cs[i]:=List.getElem?_eq_getElem (by omega)
  have h2:tr[i]? = some (tr[i]'(by omega)):=List.getElem?_eq_getElem (by omega)
  rw [foldPut_snoc i cs tr tmps _ _ h1 h2,put_getD (by rw [foldPut_len];exact ht)]
  split
  ·rename_i hdst
   rw [look_self hd (i:=i) (by rw [h1];exact hdst) (by simp),h2];rfl
  ·rename_i hdst
   rw [ih]
   refine look_congr fun j hj=>?_
   have:j ≠ i:=by rintro rfl;rw [h1] at hj;exact hdst hj
   simp;omega
def objsOf (X:Nat->Bool):Nat->List (AV × List AObj)->List AObj
 | _,[]=>[]
 | k,(_,os)::rest=>(if X k then os else List.replicate os.length .void)++objsOf X (k+1) rest
theorem objsOf_congr {X Y:Nat->Bool}:∀ (tr:List (AV × List AObj)) (k:Nat),(∀ j,(∃ r os,tr[j]? = some (r,os)/\os ≠ [])->X (k+j)=Y (k+j))->objsOf X k tr=objsOf Y k tr
 | [],_,_=>rfl
 | (r,os)::rest,k,h=>by
  simp only [objsOf]
  rw [objsOf_congr rest (k+1) fun j hj=>by have:=h (j+1) (by simpa using hj);simpa [Nat.add_assoc,Nat.add_comm 1 j] using this]
  congr 1
  cases os with
  | nil=>simp
  | cons o os =>
   have h0:=h 0 ⟨r,o::os,rfl,by simp⟩
   simp only [Nat.add_zero] at h0
   rw [h0]
theorem objsOf_all {X:Nat->Bool}:∀ (tr:List (AV × List AObj)) (k:Nat),(∀ j,j<tr.length->X (k+j)=true)->objsOf X k tr=tr.flatMap (·.2)
 | [],_,_=>rfl
 | (r,os)::rest,k,h=>by
  have h0:=h 0 (by simp)
  simp only [Nat.add_zero] at h0
  simp only [objsOf,List.flatMap_cons,h0,if_true]
  rw [objsOf_all rest (k+1) fun j hj=>by have:=h (j+1) (by simpa using hj);simpa [Nat.add_assoc,Nat.add_comm 1 j] using this]
theorem objsOf_none {X:Nat->Bool}:∀ (tr:List (AV × List AObj)) (k:Nat),(∀ j,j<tr.length->X (k+j)=false)->objsOf X k tr=List.replicate (tr.flatMap (·.2)).length .void
 | [],_,_=>rfl
 | (r,os)::rest,k,h=>by
  have h0:=h 0 (by simp)
  simp only [Nat.add_zero] at h0
  simp only [objsOf,List.flatMap_cons,h0]
  rw [objsOf_none rest (k+1) fun j hj=>by have:=h (j+1) (by simpa using hj);simpa [Nat.add_assoc,Nat.add_comm 1 j] using this]
  simp [List.replicate_append_replicate]
theorem cnt_succ (x:AV × List AObj) (tr:List (AV × List AObj)) (i:Nat):cnt (x::tr) (i+1)=x.2.length+cnt tr i:=by
 obtain ⟨r,no⟩:=x
 simp [cnt]
theorem putL_app (A:List AObj):∀ (os B:List AObj) (nid:Nat),putL (A++B) (A.length+nid) os=A++putL B nid os
 | [],_,_=>rfl
 | o::os,B,nid=>by
  rw [putL,putL,List.set_append_right _ _ (by omega),Nat.add_sub_cancel_left,Nat.add_assoc,putL_app A os]
theorem putL_void:∀ (os B:List AObj),putL (List.replicate os.length .void++B) 0 os=os++B
 | [],_=>rfl
 | o::os,B=>by
  rw [putL]
  simp only [List.length_cons,List.replicate_succ,List.cons_append,List.set_cons_zero]
  have:=putL_app [o] os (List.replicate os.length .void++B) 0
  simp only [List.cons_append,List.nil_append,List.length_cons,List.length_nil,Nat.add_zero,Nat.zero_add] at this ⊢
  rw [this,putL_void os B]
theorem objsOf_at {X:Nat->Bool}:∀ (tr:List (AV × List AObj)) (k i:Nat) (r:AV) (os:List AObj),tr[i]? = some (r,os) ->
 (cnt tr i+os.length<=(objsOf X k tr).length)/\(X (k+i)=false->∀ j,j<os.length->(objsOf X k tr)[cnt tr i+j]? = some .void)/\∀ Y:Nat->Bool,(∀ j,j ≠ k+i->Y j=X j)->X (k+i)=false->Y (k+i)=true->objsOf Y k tr=putL (objsOf X k tr) (cnt tr i) os
 | [],_,i,_,_,h=>by simp at h
 | (r',os')::rest,k,0,r,os,h=>by
  simp at h;obtain ⟨rfl,rfl⟩:=h
  simp only [Nat.add_zero,cnt,List.take_zero,List.flatMap_nil,List.length_nil,Nat.zero_add]
  refine ⟨by simp only [objsOf,List.length_append];split <;> simp,fun hX j hj=>?_,fun Y hY hX h1=>?_⟩
  ·simp only [objsOf,hX,Bool.false_eq_true,if_false]
   rw [List.getElem?_append_left (by simpa using hj),List.getElem?_replicate,if_pos hj]
  ·simp only [objsOf,hX,h1,if_true,Bool.false_eq_true,if_false]
   rw [putL_void]
   congr 1
   exact objsOf_congr _ _ fun j _=>hY _ (by omega)
 | (r',os')::rest,k,i+1,r,os,h=>by
  obtain ⟨h0,h1,h2⟩:=objsOf_at (X:=X) rest (k+1) i r os (by simpa using h)
  have e:k+1+i=k+(i+1):=by omega
  rw [e] at h1 h2
  have hl:(if X k then os' else List.replicate os'.length AObj.void).length=os'.length:=by split <;> simp
  simp only [objsOf,cnt_succ]
  refine ⟨by rw [List.length_append,hl];omega,fun hX j hj=>?_,fun Y hY hX hi=>?_⟩
  ·rw [List.getElem?_append_right (by omega),hl,show os'.length+cnt rest i+j-os'.length=cnt rest i+j by omega]
   exact h1 hX j hj
  ·rw [h2 Y hY hX hi,hY k (by omega)]
   have:=putL_app (if X k then os' else List.replicate os'.length AObj.void) os (objsOf X (k+1) rest) (cnt rest i)
   rw [hl] at this
   exact this.symm
def waits (ops:List Oper):List Nat :=
 ops.foldl (fun acc o=>acc++[o.after.toList.foldl (fun s e=>if Region.binds .any e then s ||| 2 ^ e.on ||| acc.getD e.on 0 else s) 0]) []
def closedX (ops:List Oper) (X:Nat->Prop):Prop:=∀ (i:Nat) (o:Oper),ops[i]? = some o->X i->∀ e ∈ o.after.toList,Region.binds .any e=true->X e.on
theorem waits_fold (X:Nat->Prop) (acc:List Nat) (hacc:∀ i,X i->∀ k,(acc.getD i 0).testBit k=true->X k):∀ (es:List Edge) (s:Nat),(∀ k,s.testBit k=true->X k)->(∀ e ∈ es,Region.binds .any e=true->X e.on) ->
 ∀ k,(es.foldl (fun s e=>if Region.binds .any e then s ||| 2 ^ e.on ||| acc.getD e.on 0 else s) s).testBit k=true->X k
 | [],s,hs,_,k,h=>hs k h
 | e::es,s,hs,he,k,h=>by
  simp only [List.foldl_cons] at h
  refine waits_fold X acc hacc es _ ?_ (fun e' h'=>he e' (by simp [h'])) k h
  intro k hk
  split at hk
  ·rename_i hb
   have hX:=he e (by simp) hb
   simp only [Nat.testBit_or,Bool.or_eq_true] at hk
   rcases hk with (hk | hk) | hk
   ·exact hs k hk
   ·rw [Nat.testBit_two_pow] at hk
    have:e.on=k:=by simpa using hk
    subst this;exact hX
   ·exact hacc _ hX k hk
  ·exact hs k hk
theorem waits_ok (X:Nat->Prop):∀ (ops pre:List Oper) (acc:List Nat),acc.length=pre.length->closedX (pre++ops) X ->
 (∀ i o,pre[i]? = some o->(∀ e ∈ o.after.toList,Region.binds .any e=true->X e.on)->∀ k,(acc.getD i 0).testBit k=true->X k) ->
 ∀ i o,(pre++ops)[i]? = some o->(∀ e ∈ o.after.toList,Region.binds .any e=true->X e.on) ->
  ∀ k,((ops.foldl (fun acc o=>acc++[o.after.toList.foldl (fun s e=>if Region.binds .any e then s ||| 2 ^ e.on ||| acc.getD e.on 0 else s) 0]) acc).getD i 0).testBit k=true->X k
 | [],pre,acc,hl,hc,h,i,o,ho,he,k,hk=>h i o (by simpa using ho) he k hk
 | o'::ops,pre,acc,hl,hc,h,i,o,ho,he,k,hk=>by
  simp only [List.foldl_cons] at hk
  have e1:pre++o'::ops=(pre++[o'])++ops:=by simp
  refine waits_ok X ops (pre++[o']) _ (by simp [hl]) (by rw [<-e1];exact hc) ?_ i o (by rw [<-e1];exact ho) he k hk
  intro j oj hj hje k hk
  by_cases hlt:j<pre.length
  ·rw [List.getElem?_append_left hlt] at hj
   rw [List.getD_eq_getElem?_getD,List.getElem?_append_left (by omega),<-List.getD_eq_getElem?_getD] at hk
   exact h j oj hj hje k hk
  ·have hjp:j=pre.length:=by
    have:=(List.getElem?_eq_some_iff.1 hj).1;simp at this;omega
   subst hjp
   simp at hj;subst hj
   rw [List.getD_eq_getElem?_getD,<-hl,List.getElem?_append_right (Nat.le_refl _)] at hk
   simp only [Nat.sub_self,List.getElem?_cons_zero,Option.getD_some] at hk
   refine waits_fold X acc (fun i hXi k hk=>?_) _ 0 (by simp) hje k hk
   by_cases hlt2:i<pre.length
   ·have ho':pre[i]? = some pre[i]:=List.getElem?_eq_getElem hlt2
    exact h i _ ho' (hc i _ (by rw [List.getElem?_append_left hlt2];exact ho') hXi) k hk
   ·rw [List.getD_eq_getElem?_getD,List.getElem?_eq_none (by omega)] at hk
    simp at hk
end Dak
namespace Dak
open Go Go.RowKit
variable [Globs]
variable {P : Program} {F0 : FD} {w0 w : World} {L : Lay} {objs objs0 : List AObj} {nid : Nat}
def COper.reads (c:COper):List Nat :=
 (c.op.opnds.filterMap fun | .tmp t=>some t | _=>none)++(c.guard.toList.map (·.1))
def isK:Operand->Bool
 | .const _=>true
 | _=>false
def COp.creates:COp->Bool
 | .bslice e _ ps=>ps.isEmpty || !(ps.all isK) || decide (2000000000<=e)
 | .alloc .. | .box .. | .mkslice .. | .call .. | .store .. | .append .. | .appE .. | .copy .. | .appendZ .. | .bad | .mnew .. | .mkch .. | .rng .. | .nxt .. | .ent .. | .mset ..=>true
 | _=>false
def COper.lateable (c:COper):Bool:=c.guard.isNone && c.dst.isSome && !c.op.creates
def nullOp:COper:=⟨none,none,.lenA 0⟩
def csP (cs:List COper) (q:Nat->Bool):List COper:=cs.zipIdx.map fun p=>if q p.2 then p.1 else nullOp
def latesOf (cs:List COper) (ws:List Nat) (q:Nat->Bool) (j:Nat):List COper:=cs.zipIdx.filterMap fun p=>if q p.2 && !(ws.getD j 0).testBit p.2 then some p.1 else none
def restQ (cs:List COper) (ws:List Nat) (q:Nat->Bool) (k:Nat):List (COper × List COper) :=
 (cs.zipIdx.drop k).filterMap fun p=>if q p.2 then none else some (p.1,latesOf cs ws q p.2)
def noWar (cs:List COper) (q:Nat->Bool) (c:COper) (i:Nat):Bool :=
 (List.range cs.length).all fun j=>decide (j<i) || !q j || match (cs[j]?).bind (·.dst) with
  | none=>true
  | some t=>!c.reads.contains t
def dcheck (ops:List Oper) (cs:List COper) (q:Nat->Bool):Bool :=
 let ws:=waits ops
 (ops.zipIdx.all fun p=>p.1.after.all fun e=>!Region.binds .any e || decide (e.on<p.2)) &&
 ((List.range cs.length).all fun i=>(List.range cs.length).all fun j=>i == j ||
  match cs[i]?,cs[j]? with
  | some ci,some cj =>
   if q i then
    if q j then
     match cj.dst with
     | none=>true
     | some t=>(ci.dst != some t) && (!ci.reads.contains t || (if j<i then (ws.getD i 0).testBit j else (ws.getD j 0).testBit i))
    else
     !(ws.getD i 0).testBit j && ((ws.getD j 0).testBit i || (ci.lateable && (match cj.dst with
      | none=>true
      | some t=>ci.dst != some t && !ci.reads.contains t) && (match ci.dst with
      | none=>true
      | some t=>!cj.reads.contains t) && noWar cs q ci i))
   else
    q j || (if i<j then (ws.getD j 0).testBit i else true)
  | _,_=>true)
def LateOk (s:St) (l:COper):Prop:=∃ t,l.dst=some t/\qstep s.objs (St.ev s.tmps) 0 l.op=some (s.tmps.getD t .junk,none)
def LatesOk (s:St):List COper->Prop
 | []=>True
 | l::ls=>LateOk s l/\LatesOk s ls
def RopsL (P:Program):List (COper × List COper)->(St->Prop)->St->Prop
 | [],K,st=>K st
 | (c,ls)::rest,K,st =>
  match c.guard with
  | none=>Rstep P c (fun s=>LatesOk s ls/\RopsL P rest K s) st
  | some (t,want)=>match gdB (st.tmps.getD t .junk) with
   | some b=>(b=some want->Rstep P c (fun s=>LatesOk s ls/\RopsL P rest K s) st) /\
    (b ≠ some want->LatesOk ⟨St.put st.tmps c.dst nov,st.objs⟩ ls/\RopsL P rest K ⟨St.put st.tmps c.dst nov,st.objs⟩)
   | none=>False
def tX (tmps:List AV) (cs:List COper) (tr:List (AV × List AObj)) (X:Nat->Bool):List AV:=(List.range tmps.length).map (look tmps cs tr X)
def stX (tmps:List AV) (objs0:List AObj) (cs:List COper) (tr:List (AV × List AObj)) (X:Nat->Bool):St:=⟨tX tmps cs tr X,objs0++objsOf X 0 tr⟩
theorem tX_len (tmps:List AV) (cs:List COper) (tr:List (AV × List AObj)) (X:Nat->Bool):(tX tmps cs tr X).length=tmps.length:=by simp [tX]
theorem tX_get {tmps:List AV} {cs:List COper} {tr:List (AV × List AObj)} {X:Nat->Bool} {t:Nat} (h:t<tmps.length):(tX tmps cs tr X).getD t .junk=look tmps cs tr X t:=by
 rw [List.getD_eq_getElem?_getD,List.getElem?_eq_getElem (by simpa [tX] using h)];simp [tX]
theorem getD_ext {a b:List AV} (hl:a.length=b.length) (h:∀ t,t<a.length->a.getD t .junk=b.getD t .junk):a=b:=by
 refine List.ext_getElem hl fun t h1 h2=>?_
 have:=h t h1
 rw [List.getD_eq_getElem?_getD,List.getD_eq_getElem?_getD,List.getElem?_eq_getElem h1,List.getElem?_eq_getElem h2] at this
 exact this
theorem getD_out {a:List AV} {t:Nat} (h:a.length<=t):a.getD t .junk = .junk:=by
 rw [List.getD_eq_getElem?_getD,List.getElem?_eq_none h];rfl
theorem tX_put {tmps:List AV} {cs:List COper} {tr:List (AV × List AObj)} {X Y:Nat->Bool} (hd:distinct cs) {i:Nat} {c:COper} (hc:cs[i]? = some c) {r:AV} {no:List AObj} (hr:tr[i]? = some (r,no))
 (hY:∀ j,j ≠ i->Y j=X j) (hi:Y i=true):tX tmps cs tr Y=St.put (tX tmps cs tr X) c.dst r:=by
 refine getD_ext (by rw [put_len,tX_len,tX_len]) fun t ht=>?_
 rw [tX_len] at ht
 rw [put_getD (by rw [tX_len];exact ht),tX_get ht,tX_get ht]
 split
 ·rename_i hdst
  rw [look_self hd (i:=i) (by rw [hc];exact hdst) hi,hr];rfl
 ·rename_i hdst
  refine look_congr fun j hj=>hY j ?_
  rintro rfl
  rw [hc] at hj;exact hdst hj
def mask (cs:List COper) (q X:Nat->Bool) (tmps:List AV):List AV :=
 (List.range tmps.length).map fun t=>if (List.range cs.length).any (fun j=>q j && !X j && ((cs[j]?).bind (·.dst) == some t)) then .junk else tmps.getD t .junk
theorem mask_len (cs:List COper) (q X:Nat->Bool) (tmps:List AV):(mask cs q X tmps).length=tmps.length:=by simp [mask]
theorem mask_get {cs:List COper} {q X:Nat->Bool} {tmps:List AV} {t:Nat} (h:∀ j,q j=true->(cs[j]?).bind (·.dst)=some t->X j=true):(mask cs q X tmps).getD t .junk=tmps.getD t .junk:=by
 by_cases ht:t<tmps.length
 ·rw [List.getD_eq_getElem?_getD,List.getElem?_eq_getElem (by simpa [mask] using ht)]
  simp only [mask,List.getElem_map,List.getElem_range,Option.getD_some]
  rw [if_neg]
  intro ha
  rw [List.any_eq_true] at ha
  obtain ⟨j,_,hj⟩:=ha
  simp only [Bool.and_eq_true,beq_iff_eq,Bool.not_eq_true'] at hj
  rw [h j hj.1.1 hj.2] at hj
  simp at hj
 ·rw [getD_out (by rw [mask_len];omega),getD_out (by omega)]
theorem mask_junk {cs:List COper} {q X:Nat->Bool} {tmps:List AV} {t j:Nat} (hq:q j=true) (hj:(cs[j]?).bind (·.dst)=some t) (hX:X j=false):(mask cs q X tmps).getD t .junk = .junk:=by
 by_cases ht:t<tmps.length
 ·rw [List.getD_eq_getElem?_getD,List.getElem?_eq_getElem (by simpa [mask] using ht)]
  simp only [mask,List.getElem_map,List.getElem_range,Option.getD_some]
  rw [if_pos]
  rw [List.any_eq_true]
  refine ⟨j,?_,by simp [hq,hX,hj]⟩
  rw [List.mem_range]
  rcases Nat.lt_or_ge j cs.length with h | h
  ·exact h
  ·rw [List.getElem?_eq_none h] at hj;cases hj
 ·rw [getD_out (by rw [mask_len];omega)]
def Only (o:Option (AV × Option AObj)):Prop:=∀ r no,o=some (r,no)->no=none
theorem only_none:Only none:=fun _ _ h=>by cases h
theorem only_some (r:AV):Only (some (r,none)):=fun _ _ h=>by cases h;rfl
theorem only_bind {α : Type} (o:Option α) (f : α->Option (AV × Option AObj)) (h:∀ a,Only (f a)):Only (o >>= f):=by
 cases o with
 | none=>exact only_none
 | some a=>exact h a
theorem only_map {α : Type} (o:Option α) (f : α->AV):Only (o.map fun a=>(f a,none)):=by
 cases o with
 | none=>exact only_none
 | some a=>exact only_some _
theorem only_ite {c:Prop} [Decidable c] {a b:Option (AV × Option AObj)} (h:Only a) (k:Only b):Only (if c then a else b):=by split <;> assumption
theorem ofV_isT {v:Value} (h:(ofV v).fits=true):(ofV v).isT=true:=by
 unfold ofV at h ⊢
 split
 ·rename_i cs
  simp only at h
  split
  ·rename_i h2
   exact List.all_eq_true.2 fun x hx=>by
    obtain ⟨y,_,rfl⟩:=List.mem_map.1 hx
    rfl
  ·rename_i h2
   rw [if_neg h2] at h;cases h
 ·rfl
theorem qop_none {tmps:List AV} {c:COp} (hc:c.creates=false) {r:AV} {no:Option AObj} (h:qop objs (St.ev tmps) nid c=some (r,no)):no=none:=by
 have key:Only (qop objs (St.ev tmps) nid c):=by
  cases c with
  | bslice e s ps =>
   simp only [COp.creates,Bool.or_eq_false_iff,Bool.not_eq_false',decide_eq_false_iff_not] at hc
   have hne:¬ ps.length=0:=fun h0=>by
    rw [List.eq_nil_of_length_eq_zero h0] at hc;simp at hc
   simp only [qop]
   by_cases hcond:(ps.all fun x=>(St.ev tmps x).fits && (St.ev tmps x).cells.length == s)=true/\ps.length*s<=2 ^ 24
   ·rw [if_pos hcond]
    have hT:(ps.all fun x=>(St.ev tmps x).isT)=true:=List.all_eq_true.2 fun x hx=>by
     have:=List.all_eq_true.1 hc.1.2 x hx
     have hf:=List.all_eq_true.1 hcond.1 x hx
     cases x with
     | const v=>exact ofV_isT (Bool.and_eq_true_iff.1 hf).1
     | _=>cases this
    have hno:¬ (ps.length=0 \/ (ps.all fun x=>(St.ev tmps x).isT)=false \/ 2000000000<=e):=by
     rw [hT];rintro (h | h | h)
     ·exact hne h
     ·cases h
     ·exact hc.2 h
    rw [if_neg hno]
    exact only_some _
   ·rw [if_neg hcond];exact only_none
  | mkfunc fn cap =>
   simp only [qop]
   cases fn <;> simp only [mkF] <;> first | exact only_some _ | exact only_map _ _
  | _ =>
   simp only [COp.creates,reduceCtorEq] at hc <;> simp only [qop] <;>
    repeat' (first | exact only_none | exact only_some _ | exact only_map _ _ | refine only_bind _ _ fun _=>?_ | refine only_ite ?_ ?_ | split)
 exact key _ _ h
theorem step1_congr {ev ev':Operand->AV} (c:COp) (h:∀ x ∈ c.opnds,ev x=ev' x):step1 objs ev c=step1 objs ev' c:=by
 cases c with
 | store n x v=>simp only [COp.opnds,List.mem_cons,List.not_mem_nil,or_false,forall_eq_or_imp,forall_eq] at h;simp only [step1,h]
 | append e s b x y=>simp only [COp.opnds,List.mem_cons,List.not_mem_nil,or_false,forall_eq_or_imp,forall_eq] at h;simp only [step1,h]
 | appendZ e s b z x y=>simp only [COp.opnds,List.mem_cons,List.not_mem_nil,or_false,forall_eq_or_imp,forall_eq] at h;simp only [step1,h]
 | mset c m k v=>simp only [COp.opnds,List.mem_cons,List.not_mem_nil,or_false,forall_eq_or_imp,forall_eq] at h;simp only [step1,h]
 | copy s x y=>simp only [COp.opnds,List.mem_cons,List.not_mem_nil,or_false,forall_eq_or_imp,forall_eq] at h;simp only [step1,h]
 | _=>simp only [step1];rw [qstep_congr _ h]
theorem Rstep.congr {c:COper} {K:St->Prop} {t1 t2:List AV} (h:∀ x ∈ c.op.opnds,St.ev t1 x=St.ev t2 x) (hR:Rstep P c K ⟨t1,objs⟩) :
 Rstep P c (fun s=>∃ r objs',s=⟨St.put t2 c.dst r,objs'⟩/\K ⟨St.put t1 c.dst r,objs'⟩) ⟨t2,objs⟩:=by
 unfold Rstep at hR ⊢
 have hs:=step1_congr (objs:=objs) c.op h
 generalize c.op=op at *
 cases op with
 | call f args =>
  obtain ⟨r,objs',hc,hK⟩:=hR
  have h1:args.map (St.ev t2)=args.map (St.ev t1):=List.map_congr_left fun x hx=>(h x (by simp [COp.opnds,hx])).symm
  refine ⟨r,objs',?_,r,objs',rfl,hK⟩
  show CallM P true objs (St.ev t2 f) (args.map (St.ev t2)) r objs'
  rw [h1,<-h f (by simp [COp.opnds])];exact hc
 | _ =>
  simp only at hR ⊢
  rw [<-hs]
  split at hR
  ·rename_i r objs' hq
   exact ⟨r,objs',rfl,hR⟩
  ·exact hR
theorem LatesOk.mem {s:St}:∀ {ls:List COper},LatesOk s ls->∀ l ∈ ls,LateOk s l
 | [],_,l,hl=>by cases hl
 | l'::ls,h,l,hl=>by
  rcases List.mem_cons.1 hl with rfl | hl
  ·exact h.1
  ·exact LatesOk.mem h.2 l hl
theorem csP_get {cs:List COper} {q:Nat->Bool} {i:Nat}:(csP cs q)[i]? = (cs[i]?).map fun c=>if q i then c else nullOp:=by
 unfold csP
 rw [List.getElem?_map,List.getElem?_zipIdx,Option.map_map]
 simp [Function.comp_def]
theorem csP_dst {cs:List COper} {q:Nat->Bool} {i t:Nat} (h:((csP cs q)[i]?).bind (·.dst)=some t):q i=true/\(cs[i]?).bind (·.dst)=some t:=by
 rw [csP_get] at h
 cases hc:cs[i]? with
 | none=>rw [hc] at h;cases h
 | some c =>
  rw [hc] at h
  simp only [Option.map_some,Option.bind_some] at h
  split at h
  ·rename_i hq;exact ⟨hq,h⟩
  ·cases h
theorem csP_len (cs:List COper) (q:Nat->Bool):(csP cs q).length=cs.length:=by simp [csP]
theorem restQ_at {cs:List COper} {ws:List Nat} {q:Nat->Bool} {k:Nat} {c:COper} (hc:cs[k]? = some c):restQ cs ws q k=if q k then restQ cs ws q (k+1) else (c,latesOf cs ws q k)::restQ cs ws q (k+1):=by
 obtain ⟨hk,rfl⟩:=List.getElem?_eq_some_iff.1 hc
 unfold restQ
 rw [List.drop_eq_getElem_cons (by simpa using hk)]
 simp only [List.filterMap_cons,List.getElem_zipIdx,Nat.zero_add]
 cases q k <;> simp
theorem restQ_end {cs:List COper} {ws:List Nat} {q:Nat->Bool} {k:Nat} (hk:cs.length<=k):restQ cs ws q k=[]:=by
 unfold restQ;rw [List.drop_eq_nil_of_le (by simpa using hk)];rfl
theorem restQ_skip {cs:List COper} {ws:List Nat} {q:Nat->Bool}:∀ (d k:Nat),k+d<=cs.length->(∀ j,k<=j->j<k+d->q j=true)->restQ cs ws q k=restQ cs ws q (k+d)
 | 0,_,_,_=>rfl
 | d+1,k,h,hq=>by
  rw [restQ_at (List.getElem?_eq_getElem (show k<cs.length by omega)),if_pos (hq k (Nat.le_refl _) (by omega)),restQ_skip d (k+1) (by omega) (fun j h1 h2=>hq j (by omega) (by omega)),show k+1+d=k+(d+1) from by omega]
theorem ev_eq {t1 t2:List AV} {op:COp} (h:∀ t,Operand.tmp t ∈ op.opnds->t1.getD t .junk=t2.getD t .junk):∀ x ∈ op.opnds,St.ev t1 x=St.ev t2 x:=by
 intro x hx
 cases x with
 | tmp t=>exact h t hx
 | _=>rfl
theorem mem_reads {c:COper} {t:Nat} (h:Operand.tmp t ∈ c.op.opnds):t ∈ c.reads:=by
 simp only [COper.reads,List.mem_append,List.mem_filterMap];exact .inl ⟨.tmp t,h,rfl⟩
theorem objsOf_get (X:Nat->Bool):∀ (tr:List (AV × List AObj)) (k i:Nat),i<(tr.flatMap (·.2)).length->(objsOf X k tr)[i]? = (tr.flatMap (·.2))[i]? \/ (objsOf X k tr)[i]? = some .void
 | [],_,_,h=>by simp at h
 | (_,os)::rest,k,i,h=>by
  have hl:(if X k then os else List.replicate os.length AObj.void).length=os.length:=by split <;> simp
  simp only [objsOf,List.flatMap_cons]
  by_cases hi:i<os.length
  ·rw [List.getElem?_append_left (by rw [hl];exact hi),List.getElem?_append_left hi]
   split
   ·exact .inl rfl
   ·exact .inr (by rw [List.getElem?_replicate,if_pos hi])
  ·rw [List.getElem?_append_right (by rw [hl];omega),List.getElem?_append_right (by omega),hl]
   refine objsOf_get X rest (k+1) (i-os.length) ?_
   rw [List.flatMap_cons,List.length_append] at h
   dsimp only at h
   omega
theorem objsOf_cur (X:Nat->Bool) (objs0:List AObj) (tr:List (AV × List AObj)) (id:Nat) (h:id<(objs0++tr.flatMap (·.2)).length):(objs0++objsOf X 0 tr)[id]? = (objs0++tr.flatMap (·.2))[id]? \/ (objs0++objsOf X 0 tr)[id]? = some .void:=by
 rw [List.length_append] at h
 by_cases hlt:id<objs0.length
 ·rw [List.getElem?_append_left hlt,List.getElem?_append_left hlt];exact .inl rfl
 ·rw [List.getElem?_append_right (by omega),List.getElem?_append_right (by omega)]
  exact objsOf_get X tr 0 _ (by omega)
def altC (c:COper):COper:={ c with op:=alt1 c.op }
def CompD (P:Program) (ops:Array Oper) (cs:List COper):Prop:=∃ cs0,ops.toList.mapM (compO P ops)=some cs0/\(cs=cs0 \/ cs=cs0.map altC)
def compA (P:Program) (ops:Array Oper) (o:Oper) (c:COper):Prop:=∃ c0,compO P ops o=some c0/\(c=c0 \/ c=altC c0)
theorem CompD.get {ops:Array Oper} {cs:List COper} (h:CompD P ops cs):ops.toList.length=cs.length/\∀ (k:Nat) (o:Oper),ops.toList[k]? = some o->∃ c,compA P ops o c/\cs[k]? = some c:=by
 obtain ⟨cs0,h1,h2⟩:=h
 obtain ⟨hlen,hget⟩:=mapM_get _ _ _ h1
 rcases h2 with rfl | rfl
 ·exact ⟨hlen,fun k o ho=>let ⟨c,h3,h4⟩:=hget k o ho;⟨c,⟨c,h3,.inl rfl⟩,h4⟩⟩
 ·refine ⟨by simpa using hlen,fun k o ho=>?_⟩
  obtain ⟨c,h3,h4⟩:=hget k o ho
  exact ⟨altC c,⟨c,h3,.inr rfl⟩,by rw [List.getElem?_map,h4];rfl⟩
theorem drawn_ok {ops:Array Oper} {cs:List COper} {q:Nat->Bool} (hcs:CompD P ops cs) (hchk:dcheck ops.toList cs q=true) {tmps0:List AV} {tr:List (AV × List AObj)}
 (hDT:DT P (objs0++tr.flatMap (·.2)) objs0 objs0.length tmps0 (csP cs q) tr) {K:St->Prop} (hK:RopsL P (restQ cs (waits ops.toList) q 0) K ⟨foldPut tmps0 (csP cs q) tr,objs0++tr.flatMap (·.2)⟩) :
 ∀ (fuel:Nat) (listed:Array Bool) (a:Act) (w:World) (R:List Nat),listed.size=ops.size->(∀ j,j<ops.size->listed.getD j false=false->j ∈ R)->R.length<=fuel ->
  closedX ops.toList (fun j=>listed.getD j false=true) ->
  (((∀ j,q j=false->listed.getD j false=false)/\Sim F0 w0 (stX tmps0 objs0 (csP cs q) tr fun j=>listed.getD j false) a w) \/
   ∃ k st,(∀ j,j<k->j<ops.size->q j=false->listed.getD j false=true)/\(∀ j,k<=j->q j=false->listed.getD j false=false) /\
    Sim F0 w0 ⟨mask cs q (fun j=>listed.getD j false) st.tmps,st.objs⟩ a w/\RopsL P (restQ cs (waits ops.toList) q k) K st /\
    ∀ j c,cs[j]? = some c->q j=true->listed.getD j false=false->c.guard=none/\LateOk st c/\noWar cs q c j=true) ->
  wpAny P .any ops (Lift F0 w0 fun e st=>e = .normal/\K st) fuel listed a w:=by
 simp only [dcheck,Bool.and_eq_true,List.all_eq_true,List.mem_range] at hchk
 obtain ⟨hedge,hdep⟩:=hchk
 obtain ⟨hlen,hget⟩:=hcs.get
 have hlen':cs.length=ops.size:=by simpa using hlen.symm
 have hpl:=csP_len cs q
 have htl:=hDT.len
 rw [hpl] at htl
 have hops:∀ i,i<ops.size->∃ o c,ops[i]? = some o/\ops.toList[i]? = some o/\cs[i]? = some c/\compA P ops o c:=by
  intro i hi
  have h1:ops.toList[i]? = some ops[i]:=by rw [Array.getElem?_toList,Array.getElem?_eq_getElem hi]
  obtain ⟨c,hc1,hc2⟩:=hget i _ h1
  exact ⟨ops[i],c,Array.getElem?_eq_getElem hi,h1,hc2,hc1⟩
 have hlt_of:∀ {i:Nat} {c:COper},cs[i]? = some c->i<cs.length:=fun h=>(List.getElem?_eq_some_iff.1 h).1
 have pp:∀ i j t ci cj,i ≠ j->q i=true->q j=true->cs[i]? = some ci->cs[j]? = some cj->cj.dst=some t->ci.dst ≠ some t/\(t ∈ ci.reads->if j<i then ((waits ops.toList).getD i 0).testBit j=true else ((waits ops.toList).getD j 0).testBit i=true):=by
  intro i j t ci cj hne hi hj hci hcj hd
  have:=hdep i (hlt_of hci) j (hlt_of hcj)
  rw [hci,hcj] at this
  simp only [hi,hj,if_true,hd,Bool.or_eq_true,beq_iff_eq,hne,false_or,Bool.and_eq_true,bne_iff_ne,ne_eq,Bool.not_eq_true'] at this
  refine ⟨this.1,fun ht=>?_⟩
  have h2:=this.2.resolve_left (by simp;exact ht)
  by_cases hji:j<i
  ·rw [if_pos hji] at h2 ⊢;exact h2
  ·rw [if_neg hji] at h2 ⊢;exact h2
 have pq:∀ i j ci cj,q i=true->q j=false->cs[i]? = some ci->cs[j]? = some cj->((waits ops.toList).getD i 0).testBit j=false/\(((waits ops.toList).getD j 0).testBit i=true \/
  (ci.lateable=true/\(∀ t,cj.dst=some t->ci.dst ≠ some t/\t ∉ ci.reads)/\(∀ t,ci.dst=some t->t ∉ cj.reads)/\noWar cs q ci i=true)):=by
  intro i j ci cj hi hj hci hcj
  have hne:i ≠ j:=by rintro rfl;rw [hi] at hj;cases hj
  have:=hdep i (hlt_of hci) j (hlt_of hcj)
  rw [hci,hcj] at this
  simp only [hi,hj,if_true,Bool.false_eq_true,if_false,Bool.or_eq_true,beq_iff_eq,hne,false_or,Bool.and_eq_true,Bool.not_eq_true'] at this
  refine ⟨this.1,this.2.imp id fun h=>⟨h.1.1.1,fun t ht=>?_,fun t ht=>?_,h.2⟩⟩
  ·have h2:=h.1.1.2
   rw [ht] at h2
   simp only [Bool.and_eq_true,bne_iff_ne,ne_eq,Bool.not_eq_true',List.contains_eq_mem,decide_eq_false_iff_not] at h2
   exact h2
  ·have h2:=h.1.2
   rw [ht] at h2
   simpa using h2
 have qq:∀ i j ci cj,q i=false->q j=false->i<j->cs[i]? = some ci->cs[j]? = some cj->((waits ops.toList).getD j 0).testBit i=true:=by
  intro i j ci cj hi hj hlt hci hcj
  have:=hdep i (hlt_of hci) j (hlt_of hcj)
  rw [hci,hcj] at this
  have hne:i ≠ j:=by omega
  simpa [hi,hj,hne,hlt] using this
 have hdis:distinct (csP cs q):=by
  intro i j t hi hj
  obtain ⟨h1,h2⟩:=csP_dst hi
  obtain ⟨h3,h4⟩:=csP_dst hj
  by_cases e:i=j
  ·exact e
  ·exfalso
   obtain ⟨ci,hci,hdi⟩:=Option.bind_eq_some_iff.1 h2
   obtain ⟨cj,hcj,hdj⟩:=Option.bind_eq_some_iff.1 h4
   exact (pp i j t ci cj e h1 h3 hci hcj hdj).1 hdi
 have hwlen:(waits ops.toList).length=ops.toList.length:=by
  have hfl:∀ (l:List Oper) (acc:List Nat),(l.foldl (fun acc o=>acc++[o.after.toList.foldl (fun s e=>if Region.binds .any e then s ||| 2 ^ e.on ||| acc.getD e.on 0 else s) 0]) acc).length=acc.length+l.length:=by
   intro l
   induction l with
   | nil=>intro acc;rfl
   | cons o l ih=>intro acc;simp only [List.foldl_cons];rw [ih];simp;omega
  simpa [waits] using hfl ops.toList []
 have hwaits:∀ (X:Nat->Bool),closedX ops.toList (fun j=>X j=true)->(∀ (i:Nat) (o:Oper),ops.toList[i]? = some o->(∀ e ∈ o.after.toList,Region.binds .any e=true->X e.on=true)->∀ k,((waits ops.toList).getD i 0).testBit k=true->X k=true) /\
  ∀ j,X j=true->∀ k,((waits ops.toList).getD j 0).testBit k=true->X k=true:=by
  intro X hcl
  have hwait:=waits_ok (fun j=>X j=true) ops.toList [] [] rfl (by simpa using hcl) (fun i o h=>by simp at h)
  refine ⟨fun i o ho he=>hwait i o (by simpa using ho) he,fun j hj=>?_⟩
  by_cases hjs:j<ops.size
  ·obtain ⟨oj,_,_,hoj,_⟩:=hops j hjs
   exact hwait j oj (by simpa using hoj) (hcl j oj hoj hj)
  ·intro k hk
   exfalso
   rw [List.getD_eq_getElem?_getD,List.getElem?_eq_none (by rw [hwlen];simpa using hjs)] at hk
   simp at hk
 have hcomp0:∀ {o:Oper} {c:COper},compO P ops o=some c->compB P o=some c.op/\o.dst=c.dst/\((o.guard=none/\c.guard=none) \/ ∃ j want t,o.guard=some (j,want)/\(ops[j]?).bind (·.dst)=some t/\c.guard=some (t,want)):=by
  intro o c hco
  simp only [compO,Option.bind_eq_some_iff] at hco
  obtain ⟨op,hop,hco⟩:=hco
  cases hg:o.guard with
  | none=>rw [hg] at hco;simp only [Option.some.injEq] at hco;subst hco;exact ⟨hop,rfl,.inl ⟨rfl,rfl⟩⟩
  | some g =>
   obtain ⟨j,want⟩:=g
   rw [hg] at hco;simp only [Option.map_eq_some_iff] at hco
   obtain ⟨t,htt,rfl⟩:=hco
   exact ⟨hop,rfl,.inr ⟨j,want,t,rfl,htt,rfl⟩⟩
 have hcomp:∀ {o:Oper} {c:COper},compA P ops o c->Comp1 P o c.op/\o.dst=c.dst/\((o.guard=none/\c.guard=none) \/ ∃ j want t,o.guard=some (j,want)/\(ops[j]?).bind (·.dst)=some t/\c.guard=some (t,want)):=by
  rintro o c ⟨c0,h0,rfl | rfl⟩
  ·obtain ⟨h1,h2⟩:=hcomp0 h0
   exact ⟨.ofB h1,h2⟩
  ·obtain ⟨h1,h2⟩:=hcomp0 h0
   exact ⟨.altB h1,h2⟩
 have stepA:∀ (X:Nat->Bool) (i:Nat),i<ops.size->q i=true->X i=false->closedX ops.toList (fun j=>X j=true)->(∀ o,ops.toList[i]? = some o->∀ e ∈ o.after.toList,Region.binds .any e=true->X e.on=true) ->
  ∀ (a:Act) (w:World) (T:Act->World->Prop),Sim F0 w0 (stX tmps0 objs0 (csP cs q) tr X) a w ->
  (∀ a' w',Sim F0 w0 (stX tmps0 objs0 (csP cs q) tr fun j=>if j=i then true else X j) a' w'->T a' w')->wpOp P ops (Lift F0 w0 fun e st=>e = .normal/\K st) i T a w:=by
  intro X i hi hqi hXi hcl hed a w T hsim hT
  obtain ⟨o,c,ho,hol,hc,hco⟩:=hops i hi
  have hcp:(csP cs q)[i]? = some c:=by rw [csP_get,hc];simp [hqi]
  obtain ⟨r,no,htr,hval⟩:=hDT.get i c hcp
  obtain ⟨hw1,hwj⟩:=hwaits X hcl
  have hwi:=hw1 i o hol (hed o hol)
  have heq:∀ t,t ∈ c.reads->(tX tmps0 (csP cs q) tr X).getD t .junk=(foldPut tmps0 ((csP cs q).take i) (tr.take i)).getD t .junk:=by
   intro t ht
   by_cases hlt:t<tmps0.length
   ·rw [tX_get hlt,foldPut_look hdis (by rw [htl,hpl]) i (by omega) t hlt]
    refine look_congr fun j hj=>?_
    obtain ⟨hqj,hjd⟩:=csP_dst hj
    by_cases hne:i=j
    ·subst hne;rw [hXi];simp
    ·obtain ⟨cj,hcj,hdj⟩:=Option.bind_eq_some_iff.1 hjd
     have:=(pp i j t c cj hne hqi hqj hc hcj hdj).2 ht
     split at this
     ·rename_i h;rw [hwi j this];simp [h]
     ·rename_i h
      cases hXj:X j with
      | false=>simp;omega
      | true=>rw [hwj j hXj i this] at hXi;cases hXi
   ·rw [getD_out (by rw [tX_len];exact Nat.le_of_not_lt hlt),getD_out (by rw [foldPut_len];exact Nat.le_of_not_lt hlt)]
  have hev:∀ x ∈ c.op.opnds,St.ev (foldPut tmps0 ((csP cs q).take i) (tr.take i)) x=St.ev (tX tmps0 (csP cs q) tr X) x:=ev_eq fun t ht=>(heq t (mem_reads ht)).symm
  have hgd:∀ t want,c.guard=some (t,want)->(tX tmps0 (csP cs q) tr X).getD t .junk=(foldPut tmps0 ((csP cs q).take i) (tr.take i)).getD t .junk:=by
   intro t want hg
   exact heq t (by simp [COper.reads,hg])
  have hput:=tX_put (tmps:=tmps0) (X:=X) (Y:=fun j=>if j=i then true else X j) hdis hcp htr (fun j hj=>by simp [hj]) (by simp)
  have hsame:no=[]->objsOf (fun j=>if j=i then true else X j) 0 tr=objsOf X 0 tr:=by
   rintro rfl
   refine objsOf_congr _ _ fun j hj=>?_
   obtain ⟨r',o',hj,hne⟩:=hj
   have:j ≠ i:=by rintro rfl;rw [htr] at hj;simp only [Option.some.injEq,Prod.mk.injEq] at hj;exact hne hj.2.symm
   simp [this]
  obtain ⟨hd,L,g,hs,ht⟩:=hsim
  have he:=ev_ok (objs:=(stX tmps0 objs0 (csP cs q) tr X).objs) g.gl hs ht
  have hsub:Sub objs0 (objs0++objsOf X 0 tr):=fun id g s e xs h=>by rw [List.getElem?_append_left (List.getElem?_eq_some_iff.1 h).1];exact h
  obtain ⟨hop,hdst,hguard⟩:=hcomp hco
  unfold wpOp
  simp only [ho]
  rcases hval with ⟨hon,hv⟩ | ⟨hoff,rfl,rfl⟩
  ·have hw:Region.wanted o (yielded ops a.tmps)=true:=by
    rcases hguard with ⟨hg,_⟩ | ⟨j,want,t,hg,htt,hcg⟩
    ·unfold Region.wanted;rw [hg]
    ·rw [hcg] at hon
     simp only [GOn] at hon
     rw [<-hgd t want hcg] at hon
     have hbv:boolOf (a.tmps.getD t undef)=some want:=gdB_ok (he (.tmp t)) hon
     rw [wanted_of hg htt hbv];simp
   rw [hw,if_pos rfl]
   refine .inl ?_
   have hv':=hv.congr hev
   have hat:=objsOf_at (X:=X) tr 0 i r no htr
   rw [Nat.zero_add] at hat
   obtain ⟨hat0,hat1,hat2⟩:=hat
   have hvoid:∀ k,k<no.length->(objs0++objsOf X 0 tr)[objs0.length+cnt tr i+k]? = some .void:=by
    intro k hk
    rw [List.getElem?_append_right (by omega),show objs0.length+cnt tr i+k-objs0.length=cnt tr i+k by omega]
    exact hat1 hXi k hk
   have eo:putL (objs0++objsOf X 0 tr) (objs0.length+cnt tr i) no=objs0++objsOf (fun j=>if j=i then true else X j) 0 tr:=by
    rw [hat2 (fun j=>if j=i then true else X j) (fun j hj=>by simp [hj]) hXi (by simp),putL_app]
   rcases hv' with ⟨f,args,hcall,hok⟩ | ⟨n1,hn1,hq⟩
   ·rw [hcall] at hop
    cases hok with
    | old hok =>
     obtain ⟨fid,vs,hr,hcl⟩:=call_ok (P:=P) hop.call g ⟨_,rfl⟩ he hok
     unfold Oper.wp
     rw [hr,Oper.upon_enter]
     refine hcl.mono ?_
     rintro e w' ⟨v,L',rfl,hg,hl,hv⟩
     simp only
     refine hT _ _ ?_
     have:=sim_put (st:=stX tmps0 objs0 (csP cs q) tr X) hd hs ht hg hl o.dst hv
     simp only [stX] at this ⊢
     rw [hput,hsame rfl,<-hdst];exact this
    | new hok =>
     obtain ⟨fid,vs,hr,hcl⟩:=callN1_ok (P:=P) hop.call g hsub (by simp only [stX,List.length_append];omega) hvoid he hok
     unfold Oper.wp
     rw [hr,Oper.upon_enter]
     refine hcl.mono ?_
     rintro e w' ⟨v,L',rfl,hg,hl,hv⟩
     simp only
     refine hT _ _ ?_
     have:=sim_put (st:=stX tmps0 objs0 (csP cs q) tr X) hd hs ht hg hl o.dst hv
     simp only [stX] at this ⊢
     rw [hput,<-eo,<-hdst];exact this
   ·obtain ⟨v,w',L',hr,hg,hl,hvr⟩:=qstepK_ok (P:=P) hop g hsub (objsOf_cur X objs0 tr) he (fun h=>by
     subst hn1
     obtain ⟨ob,rfl⟩:=Option.isSome_iff_exists.1 h
     exact hvoid 0 (by simp)) hq
    unfold Oper.wp
    rw [hr,Oper.upon_value]
    refine hT _ _ ?_
    have:=sim_put (st:=stX tmps0 objs0 (csP cs q) tr X) hd hs ht hg hl o.dst hvr
    have eo2:putO (objs0++objsOf X 0 tr) (objs0.length+cnt tr i) n1=objs0++objsOf (fun j=>if j=i then true else X j) 0 tr:=by
     subst hn1
     cases n1 with
     | none=>rw [hsame rfl];rfl
     | some ob=>rw [<-eo];rfl
    simp only [stX] at this ⊢
    rw [hput,<-eo2,<-hdst];exact this
  ·have hw:Region.wanted o (yielded ops a.tmps)=false:=by
    rcases hguard with ⟨hg,hcg⟩ | ⟨j,want,t,hg,htt,hcg⟩
    ·rw [hcg] at hoff;exact hoff.elim
    ·rw [hcg] at hoff
     simp only [GOff] at hoff
     rw [<-hgd t want hcg] at hoff
     obtain ⟨ob,hoff,hne⟩:=hoff
     have hbv:boolOf (a.tmps.getD t undef)=ob:=gdB_ok (he (.tmp t)) hoff
     rw [wanted_of hg htt hbv];simpa using hne
   rw [hw,if_neg (by simp)]
   refine hT _ _ ?_
   have:=sim_put (st:=stX tmps0 objs0 (csP cs q) tr X) hd hs ht g (.refl _ _ _) o.dst (r:=nov) (v:=undef) (.tree (.val _))
   simp only [stX] at this ⊢
   rw [hput,hsame rfl,<-hdst];exact this
 have toB:∀ (X:Nat->Bool) (a:Act) (w:World),(∀ j c,cs[j]? = some c->q j=true->X j=false->c.lateable=true)->Sim F0 w0 (stX tmps0 objs0 (csP cs q) tr X) a w ->
  Sim F0 w0 ⟨mask cs q X (foldPut tmps0 (csP cs q) tr),objs0++tr.flatMap (·.2)⟩ a w:=by
  intro X a w hX hs
  have e2:objsOf X 0 tr=tr.flatMap (·.2):=by
   rw [<-objsOf_all (X:=fun _=>true) tr 0 (fun _ _=>rfl)]
   refine objsOf_congr tr 0 fun j hj=>?_
   obtain ⟨r,o,hj,hne⟩:=hj
   rw [Nat.zero_add]
   have hjl:j<cs.length:=by have:=(List.getElem?_eq_some_iff.1 hj).1;omega
   cases hXj:X j with
   | true=>rfl
   | false =>
    exfalso
    have hcj:cs[j]? = some cs[j]:=List.getElem?_eq_getElem hjl
    cases hqj:q j with
    | true =>
     have hl:=hX j _ hcj hqj hXj
     have hcp:(csP cs q)[j]? = some cs[j]:=by rw [csP_get,hcj];simp [hqj]
     obtain ⟨r',no',h1,h2⟩:=hDT.get j _ hcp
     rw [hj] at h1;simp only [Option.some.injEq,Prod.mk.injEq] at h1
     obtain ⟨rfl,rfl⟩:=h1
     simp only [COper.lateable,Bool.and_eq_true,Bool.not_eq_true'] at hl
     rcases h2 with ⟨_,hv⟩ | ⟨_,_,h2⟩
     ·rcases hv with ⟨f,args,hcall,_⟩ | ⟨n1,hn1,hq⟩
      ·rw [hcall] at hl;simp [COp.creates] at hl
      ·simp only [qstepK,Option.ite_none_right_eq_some] at hq
       have:=qop_none hl.2 hq.2
       subst this
       exact hne hn1
     ·exact hne h2
    | false =>
     have hcp:(csP cs q)[j]? = some nullOp:=by rw [csP_get,hcj];simp [hqj]
     obtain ⟨r',no',h1,h2⟩:=hDT.get j _ hcp
     rw [hj] at h1;simp only [Option.some.injEq,Prod.mk.injEq] at h1
     obtain ⟨rfl,rfl⟩:=h1
     rcases h2 with ⟨_,hv⟩ | ⟨_,_,h2⟩
     ·rcases hv with ⟨f,args,hcall,_⟩ | ⟨n1,hn1,hq⟩
      ·cases hcall
      ·simp only [qstepK,Option.ite_none_right_eq_some] at hq
       have:=qop_none rfl hq.2
       subst this
       exact hne hn1
     ·exact hne h2
  unfold stX at hs
  rw [e2] at hs
  obtain ⟨hd,L,g,hs1,ht⟩:=hs
  refine ⟨hd,L,g,?_,fun t h=>?_⟩
  ·show a.tmps.size=(mask cs q X (foldPut tmps0 (csP cs q) tr)).length
   rw [mask_len,foldPut_len];rw [hs1,tX_len]
  ·have h':t<tmps0.length:=by
    have:t<(mask cs q X (foldPut tmps0 (csP cs q) tr)).length:=h
    rw [mask_len,foldPut_len] at this;exact this
   show VR w L _ ((mask cs q X (foldPut tmps0 (csP cs q) tr))[t]'h) _
   have hm:(mask cs q X (foldPut tmps0 (csP cs q) tr))[t]'h=(mask cs q X (foldPut tmps0 (csP cs q) tr)).getD t .junk:=by
    rw [List.getD_eq_getElem?_getD,List.getElem?_eq_getElem h];rfl
   rw [hm]
   by_cases hp:∃ j,q j=true/\(cs[j]?).bind (·.dst)=some t/\X j=false
   ·obtain ⟨j,h1,h2,h3⟩:=hp
    rw [mask_junk h1 h2 h3];exact .junk _
   ·have hall:∀ j,q j=true->(cs[j]?).bind (·.dst)=some t->X j=true:=by
     intro j h1 h2
     cases h3:X j with
     | true=>rfl
     | false=>exact absurd ⟨j,h1,h2,h3⟩ hp
    rw [mask_get hall]
    have h1:=foldPut_look (tr:=tr) hdis (by rw [htl,hpl]) cs.length (by omega) t h'
    have e3:(csP cs q).take cs.length=csP cs q:=List.take_of_length_le (by omega)
    have e4:tr.take cs.length=tr:=List.take_of_length_le (by omega)
    rw [e3,e4] at h1
    rw [h1]
    have h2:=ht t (by show t<(tX tmps0 (csP cs q) tr X).length;rw [tX_len];exact h')
    have h3:(tX tmps0 (csP cs q) tr X)[t]'(by rw [tX_len];exact h')=look tmps0 (csP cs q) tr X t:=by
     rw [<-tX_get h',List.getD_eq_getElem?_getD,List.getElem?_eq_getElem (by rw [tX_len];exact h')];rfl
    have h4:VR w L (objs0++tr.flatMap (·.2)) (look tmps0 (csP cs q) tr X t) (a.tmps.getD t undef):=by rw [<-h3];exact h2
    have h5:look tmps0 (csP cs q) tr (fun j=>decide (j<cs.length)) t=look tmps0 (csP cs q) tr X t:=by
     refine look_congr fun j hj=>?_
     obtain ⟨hqj,hjd⟩:=csP_dst hj
     rw [hall j hqj hjd]
     have:j<cs.length:=by
      rcases Nat.lt_or_ge j cs.length with h | h
      ·exact h
      ·rw [List.getElem?_eq_none h] at hjd;cases hjd
     simp [this]
    rw [h5];exact h4
 have stepQ:∀ (X:Nat->Bool) (i:Nat),i<ops.size->q i=false->closedX ops.toList (fun j=>X j=true)->(∀ k,((waits ops.toList).getD i 0).testBit k=true->X k=true)->X i=false ->
  ∀ (st:St) (a:Act) (w:World) (T:Act->World->Prop),Sim F0 w0 ⟨mask cs q X st.tmps,st.objs⟩ a w->RopsL P (restQ cs (waits ops.toList) q i) K st ->
  (∀ st' a' w',Sim F0 w0 ⟨mask cs q (fun j=>if j=i then true else X j) st'.tmps,st'.objs⟩ a' w'->RopsL P (restQ cs (waits ops.toList) q (i+1)) K st' ->
   (∀ j c,cs[j]? = some c->q j=true->X j=false->c.guard=none/\LateOk st' c/\noWar cs q c j=true)->T a' w')->wpOp P ops (Lift F0 w0 fun e st=>e = .normal/\K st) i T a w:=by
  intro X i hi hqi hcl hwi hXi st a w T hsim hR hT
  obtain ⟨o,c,ho,hol,hc,hco⟩:=hops i hi
  rw [restQ_at hc] at hR
  simp only [hqi,Bool.false_eq_true,if_false] at hR
  obtain ⟨hop,hdst,hguard⟩:=hcomp hco
  have hpend:∀ j cj,cs[j]? = some cj->q j=true->X j=false->cj.lateable=true/\(∀ t,c.dst=some t->cj.dst ≠ some t/\t ∉ cj.reads)/\(∀ t,cj.dst=some t->t ∉ c.reads)/\cj ∈ latesOf cs (waits ops.toList) q i/\noWar cs q cj j=true:=by
   intro j cj hcj hqj hXj
   have h1:=pq j i cj c hqj hqi hcj hc
   have hnw:((waits ops.toList).getD i 0).testBit j=false:=by
    cases hb:((waits ops.toList).getD i 0).testBit j with
    | false=>rfl
    | true=>rw [hwi j hb] at hXj;cases hXj
   have h2:=h1.2.resolve_left (by rw [hnw];simp)
   refine ⟨h2.1,h2.2.1,h2.2.2.1,?_,h2.2.2.2⟩
   unfold latesOf
   rw [List.mem_filterMap]
   refine ⟨(cj,j),List.mem_zipIdx_iff_getElem?.2 hcj,?_⟩
   simp only [hqj,hnw,Bool.not_false,Bool.and_self,if_true]
  have hread:∀ t,t ∈ c.reads->(mask cs q X st.tmps).getD t .junk=st.tmps.getD t .junk:=by
   intro t ht
   refine mask_get fun j hqj hjd=>?_
   cases hXj:X j with
   | true=>rfl
   | false =>
    obtain ⟨cj,hcj,hdj⟩:=Option.bind_eq_some_iff.1 hjd
    exact absurd ht ((hpend j cj hcj hqj hXj).2.2.1 t hdj)
  have hmask:∀ (tmps:List AV) (r:AV),St.put (mask cs q X tmps) c.dst r=mask cs q (fun j=>if j=i then true else X j) (St.put tmps c.dst r):=by
   intro tmps r
   refine getD_ext (by rw [put_len,mask_len,mask_len,put_len]) fun t ht=>?_
   rw [put_len,mask_len] at ht
   rw [put_getD (by rw [mask_len];exact ht)]
   by_cases hd:c.dst=some t
   ·rw [if_pos hd,mask_get,put_getD ht,if_pos hd]
    intro j hqj hjd
    by_cases e:j=i
    ·subst e;rw [hqi] at hqj;cases hqj
    ·simp only [e,if_false]
     cases hXj:X j with
     | true=>rfl
     | false =>
      obtain ⟨cj,hcj,hdj⟩:=Option.bind_eq_some_iff.1 hjd
      exact absurd hdj ((hpend j cj hcj hqj hXj).2.1 t hd).1
   ·rw [if_neg hd]
    by_cases hp:∃ j,q j=true/\(cs[j]?).bind (·.dst)=some t/\X j=false
    ·obtain ⟨j,h1,h2,h3⟩:=hp
     have hji:j ≠ i:=by rintro rfl;rw [hqi] at h1;cases h1
     rw [mask_junk h1 h2 h3,mask_junk (X:=fun j=>if j=i then true else X j) h1 h2 (by simp [hji,h3])]
    ·have hall:∀ j,q j=true->(cs[j]?).bind (·.dst)=some t->X j=true:=by
      intro j h1 h2
      cases h3:X j with
      | true=>rfl
      | false=>exact absurd ⟨j,h1,h2,h3⟩ hp
     rw [mask_get hall,mask_get (fun j h1 h2=>by show (if j=i then true else X j)=true;split <;> first | rfl | exact hall j h1 h2),put_getD ht,if_neg hd]
  have cont:∀ st':St,(∃ r objs',st'=⟨St.put (mask cs q X st.tmps) c.dst r,objs'⟩/\LatesOk ⟨St.put st.tmps c.dst r,objs'⟩ (latesOf cs (waits ops.toList) q i)/\RopsL P (restQ cs (waits ops.toList) q (i+1)) K ⟨St.put st.tmps c.dst r,objs'⟩) ->
   ∀ a' w',Sim F0 w0 st' a' w'->T a' w':=by
   rintro st' ⟨r,objs',rfl,hL,hR'⟩ a' w' hs'
   refine hT ⟨St.put st.tmps c.dst r,objs'⟩ a' w' (by rw [<-hmask];exact hs') hR' fun j cj hcj hqj hXj=>?_
   have hp:=hpend j cj hcj hqj hXj
   have hlt:=hp.1
   simp only [COper.lateable,Bool.and_eq_true,Option.isNone_iff_eq_none] at hlt
   exact ⟨hlt.1.1,hL.mem cj hp.2.2.2.1,hp.2.2.2.2⟩
  have hRs:∀ b,Region.wanted o (yielded ops a.tmps)=b->(b=true->Rstep P c (fun s=>LatesOk s (latesOf cs (waits ops.toList) q i)/\RopsL P (restQ cs (waits ops.toList) q (i+1)) K s) st) ->
   (b=false->LatesOk ⟨St.put st.tmps c.dst nov,st.objs⟩ (latesOf cs (waits ops.toList) q i)/\RopsL P (restQ cs (waits ops.toList) q (i+1)) K ⟨St.put st.tmps c.dst nov,st.objs⟩) ->
   wpOp P ops (Lift F0 w0 fun e st=>e = .normal/\K st) i T a w:=by
   intro b hb h1 h2
   unfold wpOp
   simp only [ho,hb]
   cases b with
   | true =>
    rw [if_pos rfl]
    have hcg:=Rstep.congr (t2:=mask cs q X st.tmps) (ev_eq fun t ht=>(hread t (mem_reads ht)).symm) (h1 rfl)
    exact .inl (rstep_ok (P:=P) (c:=c) hop hdst hsim hcg fun st' a' w' hK hs=>cont st' (by
     obtain ⟨r,objs',he,hl,hr⟩:=hK
     exact ⟨r,objs',he,hl,hr⟩) a' w' hs)
   | false =>
    rw [if_neg (by simp)]
    obtain ⟨hL,hR'⟩:=h2 rfl
    refine cont _ ⟨nov,st.objs,rfl,hL,hR'⟩ _ _ ?_
    obtain ⟨hd,L,g,hs,ht⟩:=hsim
    rw [hdst]
    exact sim_put (st:=⟨mask cs q X st.tmps,st.objs⟩) hd hs ht g (.refl _ _ _) _ (.tree (.val _))
  simp only [RopsL] at hR
  rcases hguard with ⟨hg,hcg⟩ | ⟨j,want,t,hg,htt,hcg⟩
  ·rw [hcg] at hR
   exact hRs true (by unfold Region.wanted;rw [hg]) (fun _=>hR) (fun h=>by cases h)
  ·rw [hcg] at hR
   simp only at hR
   split at hR
   ·rename_i b hb
    have hbm:gdB ((mask cs q X st.tmps).getD t .junk)=some b:=by rw [hread t (by simp [COper.reads,hcg])];exact hb
    have hbv:boolOf (a.tmps.getD t undef)=b:=by
     obtain ⟨hd,L,g,hs,ht⟩:=hsim
     exact gdB_ok (ev_ok (objs:=st.objs) (tmps:=mask cs q X st.tmps) g.gl hs ht (.tmp t)) hbm
    have hw:=wanted_of hg htt hbv
    by_cases e:b=some want
    ·subst e
     exact hRs true (by rw [hw];simp) (fun _=>hR.1 rfl) (fun h=>by cases h)
    ·exact hRs false (by rw [hw];simpa using e) (fun h=>by cases h) (fun _=>hR.2 e)
   ·exact hR.elim
 have stepL:∀ (X:Nat->Bool) (i:Nat),i<ops.size->q i=true->X i=false->closedX ops.toList (fun j=>X j=true)->(∀ k,((waits ops.toList).getD i 0).testBit k=true->X k=true) ->
  ∀ (st:St) (a:Act) (w:World) (T:Act->World->Prop),Sim F0 w0 ⟨mask cs q X st.tmps,st.objs⟩ a w->(∀ c,cs[i]? = some c->c.guard=none/\LateOk st c/\noWar cs q c i=true) ->
  (∀ a' w',Sim F0 w0 ⟨mask cs q (fun j=>if j=i then true else X j) st.tmps,st.objs⟩ a' w'->T a' w')->wpOp P ops (Lift F0 w0 fun e st=>e = .normal/\K st) i T a w:=by
  intro X i hi hqi hXi hcl hwi st a w T hsim hlate hT
  obtain ⟨o,c,ho,hol,hc,hco⟩:=hops i hi
  obtain ⟨hop,hdst,hguard⟩:=hcomp hco
  obtain ⟨hgn,⟨d,hcd,hq⟩,hnw⟩:=hlate c hc
  have hwj:=(hwaits X hcl).2
  have hread:∀ t,t ∈ c.reads->(mask cs q X st.tmps).getD t .junk=st.tmps.getD t .junk:=by
   intro t ht
   refine mask_get fun j hqj hjd=>?_
   cases hXj:X j with
   | true=>rfl
   | false =>
    exfalso
    obtain ⟨cj,hcj,hdj⟩:=Option.bind_eq_some_iff.1 hjd
    by_cases hji:j<i
    ·have:=(pp i j t c cj (by omega) hqi hqj hc hcj hdj).2 ht
     rw [if_pos hji] at this
     rw [hwi j this] at hXj;cases hXj
    ·have:=List.all_eq_true.1 hnw j (by rw [List.mem_range];exact hlt_of hcj)
     rw [hcj] at this
     simp only [Option.bind_some,hdj,hqj,Bool.not_true,Bool.or_false,Bool.or_eq_true,decide_eq_true_eq,hji,false_or,Bool.not_eq_true'] at this
     simp at this;exact this ht
  have hq2:qstep st.objs (St.ev (mask cs q X st.tmps)) 0 c.op=some (st.tmps.getD d .junk,none):=by
   rw [<-hq];exact qstep_congr _ (ev_eq fun t ht=>hread t (mem_reads ht))
  have hw:Region.wanted o (yielded ops a.tmps)=true:=by
   rcases hguard with ⟨hg,_⟩ | ⟨j,want,t,hg,htt,hcg⟩
   ·unfold Region.wanted;rw [hg]
   ·rw [hgn] at hcg;cases hcg
  obtain ⟨hd,L,g,hs,ht⟩:=hsim
  have he:=ev_ok (objs:=st.objs) (tmps:=mask cs q X st.tmps) g.gl hs ht
  obtain ⟨v,w',L',hr,hg,hl,hvr⟩:=qstep_ok (P:=P) hop g (fun _ _ _ _ _ h=>h) he (no:=none) (by simp) hq2
  unfold wpOp
  simp only [ho,hw,if_true]
  refine .inl ?_
  unfold Oper.wp
  rw [hr,Oper.upon_value]
  refine hT _ _ ?_
  have h1:=sim_put (st:=⟨mask cs q X st.tmps,st.objs⟩) hd hs ht hg hl o.dst hvr
  have h2:St.put (mask cs q X st.tmps) o.dst (st.tmps.getD d .junk)=mask cs q (fun j=>if j=i then true else X j) st.tmps:=by
   rw [hdst,hcd]
   refine getD_ext (by rw [put_len,mask_len,mask_len]) fun t ht=>?_
   rw [put_len,mask_len] at ht
   rw [put_getD (by rw [mask_len];exact ht)]
   by_cases hdt:some d=some t
   ·rw [if_pos hdt]
    simp only [Option.some.injEq] at hdt
    subst hdt
    rw [mask_get]
    intro j hqj hjd
    have hji:j=i:=by
     by_cases e:j=i
     ·exact e
     ·exfalso
      obtain ⟨cj,hcj,hdj⟩:=Option.bind_eq_some_iff.1 hjd
      exact (pp j i d cj c e hqj hqi hcj hc hcd).1 hdj
    simp [hji]
   ·rw [if_neg hdt]
    have hne:c.dst ≠ some t:=by rw [hcd];exact hdt
    by_cases hp:∃ j,q j=true/\(cs[j]?).bind (·.dst)=some t/\X j=false
    ·obtain ⟨j,h1,h2,h3⟩:=hp
     have hji:j ≠ i:=by rintro rfl;rw [hc] at h2;exact hne h2
     rw [mask_junk h1 h2 h3,mask_junk (X:=fun j=>if j=i then true else X j) h1 h2 (by simp [hji,h3])]
    ·have hall:∀ j,q j=true->(cs[j]?).bind (·.dst)=some t->X j=true:=by
      intro j h1 h2
      cases h3:X j with
      | true=>rfl
      | false=>exact absurd ⟨j,h1,h2,h3⟩ hp
     rw [mask_get hall,mask_get (fun j h1 h2=>by show (if j=i then true else X j)=true;split <;> first | rfl | exact hall j h1 h2)]
  simp only [putO] at h1
  rw [h2] at h1
  exact h1
 have hend:∀ (listed:Array Bool) (a:Act) (w:World),(∀ j,j<ops.size->listed.getD j false=true) ->
  (((∀ j,q j=false->listed.getD j false=false)/\Sim F0 w0 (stX tmps0 objs0 (csP cs q) tr fun j=>listed.getD j false) a w) \/
   ∃ k st,(∀ j,j<k->j<ops.size->q j=false->listed.getD j false=true)/\(∀ j,k<=j->q j=false->listed.getD j false=false) /\
    Sim F0 w0 ⟨mask cs q (fun j=>listed.getD j false) st.tmps,st.objs⟩ a w/\RopsL P (restQ cs (waits ops.toList) q k) K st /\
    ∀ j c,cs[j]? = some c->q j=true->listed.getD j false=false->c.guard=none/\LateOk st c/\noWar cs q c j=true) ->
  Lift F0 w0 (fun e st=>e = .normal/\K st) .normal a w:=by
  intro listed a w hall hinv
  have hnomask:∀ tmps:List AV,mask cs q (fun j=>listed.getD j false) tmps=tmps:=by
   intro tmps
   refine getD_ext (by rw [mask_len]) fun t ht=>?_
   refine mask_get fun j _ hjd=>hall j ?_
   rcases Nat.lt_or_ge j cs.length with h | h
   ·omega
   ·rw [List.getElem?_eq_none h] at hjd;cases hjd
  have hallq:∀ k,(∀ j,k<=j->q j=false->listed.getD j false=false)->restQ cs (waits ops.toList) q k=[]:=by
   intro k hk
   by_cases hkl:k<=cs.length
   ·rw [restQ_skip (cs.length-k) k (by omega) (fun j h1 h2=>by
     cases hq:q j with
     | true=>rfl
     | false=>have:=hk j h1 hq;rw [hall j (by omega)] at this;cases this)]
    exact restQ_end (by omega)
   ·exact restQ_end (by omega)
  rcases hinv with ⟨hnone,hsim⟩ | ⟨k,st,_,hhigh,hsim,hRk,_⟩
  ·have hs:=toB _ a w (fun j c hc _ hX=>by rw [hall j (by have:=hlt_of hc;omega)] at hX;cases hX) hsim
   rw [hnomask] at hs
   rw [hallq 0 (fun j _=>hnone j)] at hK
   exact ⟨_,⟨rfl,hK⟩,hs⟩
  ·rw [hnomask] at hsim
   rw [hallq k hhigh] at hRk
   exact ⟨st,⟨rfl,hRk⟩,hsim⟩
 have alldone:∀ (listed:Array Bool),listed.size=ops.size->Region.ready .any ops listed=[]->∀ j,j<ops.size->listed.getD j false=true:=by
  intro listed hls hr j
  induction j using Nat.strongRecOn with
  | _ j ih =>
   intro hj
   cases hX:listed.getD j false with
   | true=>rfl
   | false =>
    exfalso
    obtain ⟨o,c,ho,hol,_⟩:=hops j hj
    have hmem:j ∈ Region.ready .any ops listed:=by
     rw [mem_ready]
     refine ⟨?_,o,ho,fun e he hb=>?_⟩
     ·rw [Array.getD_eq_getD_getElem?,Array.getElem?_eq_getElem (by omega)] at hX ⊢;exact hX
     ·have hzi:(o,j) ∈ ops.toList.zipIdx:=List.mem_zipIdx_iff_getElem?.2 hol
      have:=hedge (o,j) hzi
      rw [Array.all_eq_true'] at this
      have:=this e he
      rw [hb] at this
      have hlt:e.on<j:=by simpa using this
      exact ih e.on hlt (by omega)
    rw [hr] at hmem;cases hmem
 intro fuel
 induction fuel with
 | zero =>
  intro listed a w R hls hR hRl hcl hinv
  have hall:∀ j,j<ops.size->listed.getD j false=true:=by
   intro j hj
   cases hX:listed.getD j false with
   | true=>rfl
   | false =>
    have:=hR j hj hX
    have hnil:R=[]:=List.eq_nil_of_length_eq_zero (by omega)
    rw [hnil] at this;cases this
  have hrd:Region.ready .any ops listed=[]:=by
   rw [List.eq_nil_iff_forall_not_mem]
   intro j hj
   rw [mem_ready] at hj
   obtain ⟨h1,o,ho,_⟩:=hj
   have hlt:j<ops.size:=(Array.getElem?_eq_some_iff.1 ho).1
   have:=hall j hlt
   rw [Array.getD_eq_getD_getElem?,Array.getElem?_eq_getElem (by omega)] at h1 this
   simp only [Option.getD_some] at h1 this
   rw [this] at h1;cases h1
  exact ⟨hrd,hend listed a w hall hinv⟩
 | succ fuel ih =>
  intro listed a w R hls hR hRl hcl hinv
  refine ⟨fun hrd=>hend listed a w (alldone listed hls hrd) hinv,fun i hi=>?_⟩
  rw [mem_ready] at hi
  obtain ⟨h1,o,ho,hed⟩:=hi
  have hlt:i<ops.size:=(Array.getElem?_eq_some_iff.1 ho).1
  have hXi:listed.getD i false=false:=by
   rw [Array.getD_eq_getD_getElem?,Array.getElem?_eq_getElem (by omega)] at h1 ⊢;exact h1
  obtain ⟨o',c,ho',hol,hc,hco⟩:=hops i hlt
  rw [ho] at ho';simp only [Option.some.injEq] at ho';subst ho'
  have hiR:=hR i hlt hXi
  have hset:∀ j,(listed.setIfInBounds i true).getD j false=if j=i then true else listed.getD j false:=by
   intro j
   by_cases e:j=i
   ·subst e
    rw [if_pos rfl,Array.getD_eq_getD_getElem?,Array.getElem?_setIfInBounds_self_of_lt (by omega)];rfl
   ·rw [if_neg e];exact getD_set_ne false (Ne.symm e)
  have hfun:(fun j=>(listed.setIfInBounds i true).getD j false)=fun j=>if j=i then true else listed.getD j false:=funext hset
  have hwi:∀ k,((waits ops.toList).getD i 0).testBit k=true->listed.getD k false=true:=(hwaits (fun j=>listed.getD j false) hcl).1 i o hol (fun e he hb=>hed e (by simpa using he) hb)
  have next:∀ a' w',(((∀ j,q j=false->(listed.setIfInBounds i true).getD j false=false)/\Sim F0 w0 (stX tmps0 objs0 (csP cs q) tr fun j=>(listed.setIfInBounds i true).getD j false) a' w') \/
   ∃ k st,(∀ j,j<k->j<ops.size->q j=false->(listed.setIfInBounds i true).getD j false=true)/\(∀ j,k<=j->q j=false->(listed.setIfInBounds i true).getD j false=false) /\
    Sim F0 w0 ⟨mask cs q (fun j=>(listed.setIfInBounds i true).getD j false) st.tmps,st.objs⟩ a' w'/\RopsL P (restQ cs (waits ops.toList) q k) K st /\
    ∀ j c,cs[j]? = some c->q j=true->(listed.setIfInBounds i true).getD j false=false->c.guard=none/\LateOk st c/\noWar cs q c j=true) ->
   wpAny P .any ops (Lift F0 w0 fun e st=>e = .normal/\K st) fuel (listed.setIfInBounds i true) a' w':=by
   intro a' w' hinv'
   refine ih _ a' w' (R.erase i) (by simp [hls]) (fun j hj hXj=>?_) (by rw [List.length_erase_of_mem hiR];omega) (fun j oj hoj hXj e he hb=>?_) hinv'
   ·rw [hset] at hXj
    have hne:j ≠ i:=by rintro rfl;simp at hXj
    rw [if_neg hne] at hXj
    exact (List.mem_erase_of_ne hne).2 (hR j hj hXj)
   ·show (listed.setIfInBounds i true).getD e.on false=true
    have hXj:(listed.setIfInBounds i true).getD j false=true:=hXj
    rw [hset] at hXj ⊢
    by_cases e1:e.on=i
    ·rw [if_pos e1]
    ·rw [if_neg e1]
     by_cases e2:j=i
     ·subst e2
      rw [hol] at hoj;simp only [Option.some.injEq] at hoj;subst hoj
      exact hed e (by simpa using he) hb
     ·rw [if_neg e2] at hXj;exact hcl j oj hoj hXj e he hb
  have hbefore:q i=false->∀ j,j<i->q j=false->listed.getD j false=true:=by
   intro hqi j hj hqj
   obtain ⟨_,cj,_,_,hcj,_⟩:=hops j (by omega)
   exact hwi j (qq j i cj c hqj hqi hj hcj hc)
  have hskip:∀ k,k<=i->(∀ j,k<=j->q j=false->listed.getD j false=false)->q i=false->restQ cs (waits ops.toList) q k=restQ cs (waits ops.toList) q i:=by
   intro k hk hh hqi
   have:=restQ_skip (cs:=cs) (ws:=waits ops.toList) (q:=q) (i-k) k (by omega) (fun j h1 h2=>by
    cases hq:q j with
    | true=>rfl
    | false=>have:=hh j h1 hq;rw [hbefore hqi j (by omega) hq] at this;cases this)
   rwa [show k+(i-k)=i from by omega] at this
  rcases hinv with ⟨hnone,hsim⟩ | ⟨k,st,hlow,hhigh,hsim,hRk,hlt2⟩
  ·by_cases hqi:q i=true
   ·refine stepA (fun j=>listed.getD j false) i hlt hqi hXi hcl (fun oi hoi e he hb=>?_) a w _ hsim fun a' w' hs=>next a' w' (.inl ⟨fun j hj=>?_,?_⟩)
    ·rw [hol] at hoi;simp only [Option.some.injEq] at hoi;subst hoi
     exact hed e (by simpa using he) hb
    ·rw [hset,if_neg (by rintro rfl;rw [hqi] at hj;cases hj)];exact hnone j hj
    ·rw [hfun];exact hs
   ·have hqi:q i=false:=by simpa using hqi
    have hs:=toB (fun j=>listed.getD j false) a w (fun j cj hcj hqj hXj=>by
     have h1:=(pq j i cj c hqj hqi hcj hc).2
     exact (h1.resolve_left (by
      intro hb
      have h2:listed.getD j false=true:=hwi j hb
      have hXj:listed.getD j false=false:=hXj
      rw [h2] at hXj;cases hXj)).1) hsim
    have hK':=hK
    rw [hskip 0 (Nat.zero_le _) (fun j _=>hnone j) hqi] at hK'
    refine stepQ (fun j=>listed.getD j false) i hlt hqi hcl hwi hXi _ a w _ hs hK' fun st' a' w' hs' hR' hl'=>next a' w' (.inr ⟨i+1,st',fun j hj hjs hqj=>?_,fun j hj hqj=>?_,?_,hR',fun j cj hcj hqj hXj=>?_⟩)
    ·rw [hset];split
     ·rfl
     ·exact hbefore hqi j (by omega) hqj
    ·rw [hset,if_neg (by omega)];exact hnone j hqj
    ·rw [hfun];exact hs'
    ·rw [hset] at hXj
     split at hXj
     ·cases hXj
     ·exact hl' j cj hcj hqj hXj
  ·by_cases hqi:q i=true
   ·refine stepL (fun j=>listed.getD j false) i hlt hqi hXi hcl hwi st a w _ hsim (fun c' hc'=>hlt2 i c' hc' hqi hXi) fun a' w' hs=>next a' w' (.inr ⟨k,st,fun j hj hjs hqj=>?_,fun j hj hqj=>?_,?_,hRk,fun j cj hcj hqj hXj=>?_⟩)
    ·rw [hset];split
     ·rfl
     ·exact hlow j hj hjs hqj
    ·rw [hset,if_neg (by rintro rfl;rw [hqi] at hqj;cases hqj)];exact hhigh j hj hqj
    ·rw [hfun];exact hs
    ·rw [hset] at hXj
     split at hXj
     ·cases hXj
     ·exact hlt2 j cj hcj hqj hXj
   ·have hqi:q i=false:=by simpa using hqi
    have hki:k<=i:=by
     rcases Nat.lt_or_ge i k with h | h
     ·rw [hlow i h hlt hqi] at hXi;cases hXi
     ·exact h
    have hRk':=hRk
    rw [hskip k hki hhigh hqi] at hRk'
    refine stepQ (fun j=>listed.getD j false) i hlt hqi hcl hwi hXi st a w _ hsim hRk' fun st' a' w' hs' hR' hl'=>next a' w' (.inr ⟨i+1,st',fun j hj hjs hqj=>?_,fun j hj hqj=>?_,?_,hR',fun j cj hcj hqj hXj=>?_⟩)
    ·rw [hset];split
     ·rfl
     ·exact hbefore hqi j (by omega) hqj
    ·rw [hset,if_neg (by omega)];exact hhigh j (by omega) hqj
    ·rw [hfun];exact hs'
    ·rw [hset] at hXj
     split at hXj
     ·cases hXj
     ·exact hl' j cj hcj hqj hXj
theorem any_drawn {ops:Array Oper} {cs:List COper} {q:Nat->Bool} (hcs:CompD P ops cs) (hchk:dcheck ops.toList cs q=true)
 {K:St->Prop} {st:St} {a:Act} {w:World} (hsim:Sim F0 w0 st a w) (h:Qops P st.objs (csP cs q) (fun tmps cr=>RopsL P (restQ cs (waits ops.toList) q 0) K ⟨tmps,st.objs++cr⟩) st.tmps []) :
 wpAny P .any ops (Lift F0 w0 fun e st=>e = .normal/\K st) ops.size (Array.replicate ops.size false) a { w with drawn:=w.drawn+1 }:=by
 obtain ⟨tr,hDT,hK⟩:=qops_trace _ _ _ h
 simp only [List.length_nil,Nat.add_zero,List.nil_append] at hDT hK
 have hf:∀ j,(Array.replicate ops.size false).getD j false=false:=by
  intro j;rw [Array.getD_eq_getD_getElem?,Array.getElem?_replicate];split <;> rfl
 refine (drawn_ok hcs hchk hDT hK ops.size _ a _ (List.range ops.size) (by simp) (fun j hj _=>by simpa using hj) (by simp) (fun i o ho (hX:(Array.replicate ops.size false).getD i false=true)=>by rw [hf] at hX;cases hX) (.inl ⟨fun j _=>hf j,?_⟩))
 have hx:Ext w { w with drawn:=w.drawn+1 }:=Ext.drewN w 1
 obtain ⟨hd,L,g,hs,ht⟩:=hsim
 have e1:tX st.tmps (csP cs q) tr (fun j=>(Array.replicate ops.size false).getD j false)=st.tmps:=by
  refine getD_ext (by rw [tX_len]) fun t ht=>?_
  rw [tX_len] at ht
  rw [tX_get ht]
  unfold look
  rw [List.find?_eq_none.2 (fun j _=>by simp only [hf];simp)]
 have e2:objsOf (fun j=>(Array.replicate ops.size false).getD j false) 0 tr=List.replicate (tr.flatMap (·.2)).length .void:=objsOf_none tr 0 fun j _=>by rw [Nat.zero_add];exact hf j
 unfold stX
 rw [e1,e2]
 have voids:∀ n,∃ hg:Good F0 w0 { w with drawn:=w.drawn+1 } L (st.objs++List.replicate n .void),Later w L st.objs { w with drawn:=w.drawn+1 } L (st.objs++List.replicate n .void):=by
  intro n
  induction n with
  | zero=>simp only [List.replicate_zero,List.append_nil];exact ⟨g.ext' hx,.ext _ _ hx⟩
  | succ n ih =>
   obtain ⟨h1,h2⟩:=ih
   obtain ⟨h3,h4⟩:=good_void h1
   rw [List.replicate_succ',<-List.append_assoc]
   exact ⟨h3,h2.trans h4⟩
 obtain ⟨hg,hl⟩:=voids (tr.flatMap (·.2)).length
 exact ⟨hd,L,hg,hs,fun t h=>(ht t h).stay hl⟩
inductive PT where
 | done
 | stop
 | alt (c:COper) (ls:List COper) (sub next:PT)
 deriving Inhabited
def RG (P:Program) (c:COper) (K:St->Prop) (st:St):Prop :=
 match c.guard with
 | none=>Rstep P c K st
 | some (t,want)=>match gdB (st.tmps.getD t .junk) with
  | some b=>(b=some want->Rstep P c K st)/\(b ≠ some want->K ⟨St.put st.tmps c.dst nov,st.objs⟩)
  | none=>False
def RT (P:Program):PT->(St->Prop)->St->Prop
 | .done,K,st=>K st
 | .stop,_,_=>True
 | .alt c ls sub next,K,st=>RG P c (fun s=>LatesOk s ls/\RT P sub K s) st/\RT P next K st
def freeIn (ws:List Nat) (rem:List Nat) (i:Nat):Bool:=rem.all fun j=>j == i || !(ws.getD i 0).testBit j
def treeT (ws:List Nat) (cs:List COper):Nat->List Nat->PT
 | 0,_=>.done
 | n+1,rem=>(rem.filter (freeIn ws rem)).foldr (fun i t=>.alt (cs.getD i default) [] (treeT ws cs n (rem.erase i)) t) .stop
def barrier (ops:List Oper) (b:Nat):Bool :=
 let ws:=waits ops
 (ops.zipIdx.all fun p=>p.1.after.all fun e=>!Region.binds .any e || decide (e.on<p.2)) &&
 ((ops.take b).all fun o=>o.guard.all fun g=>decide (g.1<b)) &&
 ((List.range ops.length).all fun i=>decide (i<b) || (List.range b).all fun j=>(ws.getD i 0).testBit j)
theorem RT_mem {K:St->Prop} {st:St} {g:Nat->PT} {h:Nat->COper} {ls:Nat->List COper}:∀ (l:List Nat),RT P (l.foldr (fun i t=>.alt (h i) (ls i) (g i) t) .stop) K st->∀ i ∈ l,RG P (h i) (fun s=>LatesOk s (ls i)/\RT P (g i) K s) st
 | [],_,i,hi=>by cases hi
 | j::l,hr,i,hi=>by
  simp only [List.foldr_cons,RT] at hr
  rcases List.mem_cons.1 hi with rfl | hi
  ·exact hr.1
  ·exact RT_mem l hr.2 i hi
theorem alldone' {ops:Array Oper} (hedge:∀ p ∈ ops.toList.zipIdx,(p.1.after.all fun e=>!Region.binds .any e || decide (e.on<p.2))=true) {listed:Array Bool} (hls:listed.size=ops.size) (hr:Region.ready .any ops listed=[]):∀ j,j<ops.size->listed.getD j false=true:=by
 intro j
 induction j using Nat.strongRecOn with
 | _ j ih =>
  intro hj
  cases hX:listed.getD j false with
  | true=>rfl
  | false =>
   exfalso
   have ho:ops[j]? = some ops[j]:=Array.getElem?_eq_getElem hj
   have hmem:j ∈ Region.ready .any ops listed:=by
    rw [mem_ready]
    refine ⟨?_,ops[j],ho,fun e he hb=>?_⟩
    ·rw [Array.getD_eq_getD_getElem?,Array.getElem?_eq_getElem (by omega)] at hX ⊢;exact hX
    ·have hzi:(ops[j],j) ∈ ops.toList.zipIdx:=List.mem_zipIdx_iff_getElem?.2 (by rw [Array.getElem?_toList];exact ho)
     have:=hedge _ hzi
     rw [Array.all_eq_true'] at this
     have:=this e he
     rw [hb] at this
     have hlt:e.on<j:=by simpa using this
     exact ih e.on hlt (by omega)
   rw [hr] at hmem;cases hmem
theorem set_listed {listed:Array Bool} {n:Nat} (hls:listed.size=n) {i:Nat} (hlt:i<n) (j:Nat):(listed.setIfInBounds i true).getD j false=if j=i then true else listed.getD j false:=by
 by_cases e:j=i
 ·subst e
  rw [if_pos rfl,Array.getD_eq_getD_getElem?,Array.getElem?_setIfInBounds_self_of_lt (by omega)];rfl
 ·rw [if_neg e];exact getD_set_ne false (Ne.symm e)
theorem closed_set {ops:Array Oper} {listed:Array Bool} (hls:listed.size=ops.size) {i:Nat} {o:Oper} (ho:ops[i]? = some o) (hed:∀ e ∈ o.after,Region.binds .any e=true->listed.getD e.on false=true) (hcl:closedX ops.toList (fun j=>listed.getD j false=true)) :
 closedX ops.toList (fun j=>(listed.setIfInBounds i true).getD j false=true):=by
 have hlt:i<ops.size:=(Array.getElem?_eq_some_iff.1 ho).1
 intro j oj hoj hXj e he hb
 show (listed.setIfInBounds i true).getD e.on false=true
 have hXj:(listed.setIfInBounds i true).getD j false=true:=hXj
 rw [set_listed hls hlt] at hXj ⊢
 by_cases e1:e.on=i
 ·rw [if_pos e1]
 ·rw [if_neg e1]
  by_cases e2:j=i
  ·subst e2
   rw [Array.getElem?_toList,ho] at hoj;simp only [Option.some.injEq] at hoj;subst hoj
   exact hed e (by simpa using he) hb
  ·rw [if_neg e2] at hXj;exact hcl j oj hoj hXj e he hb
theorem waits_all {ops:Array Oper} {listed:Array Bool} (hcl:closedX ops.toList (fun j=>listed.getD j false=true)) {i:Nat} {o:Oper} (ho:ops[i]? = some o) (hed:∀ e ∈ o.after,Region.binds .any e=true->listed.getD e.on false=true) :
 ∀ k,((waits ops.toList).getD i 0).testBit k=true->listed.getD k false=true:=by
 have hwait:=waits_ok (fun j=>listed.getD j false=true) ops.toList [] [] rfl (by simpa using hcl) (fun i o h=>by simp at h)
 exact fun k hk=>hwait i o (by simpa using ho) (fun e he hb=>hed e (by simpa using he) hb) k hk
theorem tail_ok {ops:Array Oper} {cs:List COper} (hcs:ops.toList.mapM (compO P ops)=some cs) (hedge:∀ p ∈ ops.toList.zipIdx,(p.1.after.all fun e=>!Region.binds .any e || decide (e.on<p.2))=true) {K:St->Prop} :
 ∀ (n:Nat) (rem:List Nat),rem.length=n->rem.Nodup->(∀ j ∈ rem,j<ops.size)->∀ (listed:Array Bool),listed.size=ops.size->(∀ j,j<ops.size->(listed.getD j false=false ↔ j ∈ rem))->closedX ops.toList (fun j=>listed.getD j false=true) ->
  ∀ (st:St) (a:Act) (w:World),Sim F0 w0 st a w->RT P (treeT (waits ops.toList) cs n rem) K st->∀ m,n<=m->wpAny P .any ops (Lift F0 w0 fun e st=>e = .normal/\K st) m listed a w
 | 0,rem,hn,_,_,listed,hls,hl,_,st,a,w,hsim,h,m,_=>by
  have hrem:rem=[]:=List.eq_nil_of_length_eq_zero hn
  subst hrem
  have hrd:Region.ready .any ops listed=[]:=by
   rw [List.eq_nil_iff_forall_not_mem]
   intro j hj
   rw [mem_ready] at hj
   obtain ⟨h1,o,ho,_⟩:=hj
   have hlt:j<ops.size:=(Array.getElem?_eq_some_iff.1 ho).1
   have:=hl j hlt
   rw [Array.getD_eq_getD_getElem?,Array.getElem?_eq_getElem (by omega)] at h1 this
   simp only [Option.getD_some] at h1 this
   simp [h1] at this
  have hq:Lift F0 w0 (fun e st=>e = .normal/\K st) .normal a w:=⟨st,⟨rfl,h⟩,hsim⟩
  cases m with
  | zero=>exact ⟨hrd,hq⟩
  | succ m=>exact ⟨fun _=>hq,fun i hi=>by rw [hrd] at hi;cases hi⟩
 | n+1,rem,hn,hnd,hlt,listed,hls,hl,hcl,st,a,w,hsim,h,m,hm=>by
  obtain ⟨m,rfl⟩:∃ k,m=k+1:=⟨m-1,by omega⟩
  obtain ⟨hlen,hget⟩:=mapM_get _ _ _ hcs
  refine ⟨fun hrd=>?_,fun i hi=>?_⟩
  ·exfalso
   have hall:=alldone' hedge hls hrd
   cases rem with
   | nil=>cases hn
   | cons j rem =>
    have h1:=hlt j (by simp)
    have h2:=(hl j h1).2 (by simp)
    rw [hall j h1] at h2;cases h2
  rw [mem_ready] at hi
  obtain ⟨h1,o,ho,hed⟩:=hi
  have hil:i<ops.size:=(Array.getElem?_eq_some_iff.1 ho).1
  have hXi:listed.getD i false=false:=by
   rw [Array.getD_eq_getD_getElem?,Array.getElem?_eq_getElem (by omega)] at h1 ⊢;exact h1
  have hir:=(hl i hil).1 hXi
  have hw:=waits_all hcl ho hed
  have hfree:freeIn (waits ops.toList) rem i=true:=by
   unfold freeIn
   rw [List.all_eq_true]
   intro j hj
   by_cases e:j=i
   ·simp [e]
   ·have hb:((waits ops.toList).getD i 0).testBit j=false:=by
     cases hb:((waits ops.toList).getD i 0).testBit j with
     | false=>rfl
     | true =>
      have h2:=hw j hb
      rw [(hl j (hlt j hj)).2 hj] at h2;cases h2
    rw [hb];simp
  obtain ⟨c,hco,hc⟩:=hget i o (by rw [Array.getElem?_toList];exact ho)
  have hRG:=RT_mem (P:=P) (K:=K) (st:=st) (g:=fun i=>treeT (waits ops.toList) cs n (rem.erase i)) (h:=fun i=>cs.getD i default) (ls:=fun _=>[]) _ h i (List.mem_filter.2 ⟨hir,hfree⟩)
  have hcd:cs.getD i default=c:=by rw [List.getD_eq_getElem?_getD,hc];rfl
  rw [hcd] at hRG
  have hset:=set_listed (listed:=listed) hls hil
  have next:∀ st' a' w',(LatesOk st' []/\RT P (treeT (waits ops.toList) cs n (rem.erase i)) K st')->Sim F0 w0 st' a' w'->wpAny P .any ops (Lift F0 w0 fun e st=>e = .normal/\K st) m (listed.setIfInBounds i true) a' w':=by
   rintro st' a' w' ⟨_,hr⟩ hs
   refine tail_ok hcs hedge n (rem.erase i) (by rw [List.length_erase_of_mem hir];omega) (hnd.erase i) (fun j hj=>hlt j (List.mem_of_mem_erase hj)) _ (by simp [hls]) (fun j hj=>?_) (closed_set hls ho hed hcl) st' a' w' hs hr m (by omega)
   rw [hset,hnd.mem_erase_iff]
   by_cases e:j=i
   ·simp [e]
   ·simp only [e,if_false,ne_eq,not_false_eq_true,true_and];exact hl j hj
  simp only [compO,Option.bind_eq_some_iff] at hco
  obtain ⟨op,hop,hco⟩:=hco
  unfold wpOp
  simp only [ho]
  cases hg:o.guard with
  | none =>
   rw [hg] at hco;simp only [Option.some.injEq] at hco;subst hco
   have hwn:Region.wanted o (yielded ops a.tmps)=true:=by unfold Region.wanted;rw [hg]
   rw [hwn,if_pos rfl]
   have hRG':Rstep P ⟨o.dst,none,op⟩ (fun s=>LatesOk s []/\RT P (treeT (waits ops.toList) cs n (rem.erase i)) K s) st:=hRG
   exact .inl (rstep_ok (P:=P) (c:=⟨o.dst,none,op⟩) (.ofB hop) rfl hsim hRG' next)
  | some g =>
   obtain ⟨j,want⟩:=g
   rw [hg] at hco;simp only [Option.map_eq_some_iff] at hco
   obtain ⟨t,htt,rfl⟩:=hco
   simp only [RG] at hRG
   split at hRG
   ·rename_i b hb
    have hbv:boolOf (a.tmps.getD t undef)=b:=by
     obtain ⟨hd,L,g,hs,ht⟩:=hsim
     exact gdB_ok (ev_ok (objs:=st.objs) g.gl hs ht (.tmp t)) hb
    have hwn:=wanted_of hg htt hbv
    by_cases e:b=some want
    ·subst e
     rw [hwn]
     simp only [beq_self_eq_true,if_true]
     exact .inl (rstep_ok (P:=P) (c:=⟨o.dst,some (t,want),op⟩) (.ofB hop) rfl hsim (hRG.1 rfl) next)
    ·rw [hwn]
     have:(b == some want)=false:=by simpa using e
     simp only [this,Bool.false_eq_true,if_false]
     refine next _ _ _ (hRG.2 e) ?_
     obtain ⟨hd,L,g,hs,ht⟩:=hsim
     exact sim_put (st:=st) hd hs ht g (.refl _ _ _) _ (.tree (.val _))
   ·exact hRG.elim
theorem wpOp_cut {ops ops1:Array Oper} {i:Nat} (hi:ops1[i]? = ops[i]?) (hg:∀ o,ops[i]? = some o->∀ g,o.guard=some g->ops1[g.1]? = ops[g.1]?) {K K':St->Prop} {T T':Act->World->Prop} (hT:∀ a w,T a w->T' a w) {a:Act} {w:World}
 (h:wpOp P ops1 (Lift F0 w0 fun e st=>e = .normal/\K st) i T a w):wpOp P ops (Lift F0 w0 fun e st=>e = .normal/\K' st) i T' a w:=by
 unfold wpOp at h ⊢
 rw [hi] at h
 cases ho:ops[i]? with
 | none=>rw [ho] at h;exact hT _ _ h
 | some o =>
  rw [ho] at h
  simp only at h ⊢
  have hw:Region.wanted o (yielded ops1 a.tmps)=Region.wanted o (yielded ops a.tmps):=by
   unfold Region.wanted
   cases hgd:o.guard with
   | none=>rfl
   | some g =>
    obtain ⟨j,want⟩:=g
    have:=hg o ho _ hgd
    simp only [yielded]
    rw [this]
  rw [hw] at h
  split at h
  ·rename_i hwn
   rw [if_pos hwn]
   rcases h with h | ⟨_,h⟩
   ·refine .inl ?_
    unfold Oper.wp at h ⊢
    generalize (execOp a.eval o).run P w=r at *
    cases r with
    | ok n w' =>
     cases n <;> simp only [Oper.upon] at h ⊢ <;>
      first
       | exact hT _ _ h
       | exact Calls.mono h (fun e w'' he=>by
        cases e <;> first
         | exact hT _ _ he
         | (obtain ⟨_,⟨he,_⟩,_⟩:=he;cases he;done)
         | (obtain ⟨_,_,_,⟨he,_⟩,_⟩:=he;cases he;done))
       | exact Rows.mono h (fun _ _ he=>hT _ _ he)
    | halt x w'=>cases x <;> simp only [Oper.upon] at h ⊢ <;> first | exact h | (obtain ⟨_,⟨he,_⟩,_⟩:=h;cases he;done)
   ·obtain ⟨_,_,_,⟨he,_⟩,_⟩:=h;cases he
  ·rename_i hwn
   rw [if_neg hwn];exact hT _ _ h
theorem cut_ok {ops:Array Oper} {b:Nat} (hb:b<=ops.size) (hbar:barrier ops.toList b=true) {K K':St->Prop}
 (hT:∀ a w,Lift F0 w0 (fun e st=>e = .normal/\K st) .normal a w->∀ listed:Array Bool,listed.size=ops.size->(∀ j,listed.getD j false=decide (j<b))->closedX ops.toList (fun j=>listed.getD j false=true)->∀ m,ops.size-b<=m->wpAny P .any ops (Lift F0 w0 fun e st=>e = .normal/\K' st) m listed a w) :
 ∀ (fuel:Nat) (l1 listed:Array Bool) (a:Act) (w:World),l1.size=b->listed.size=ops.size->(∀ j,j<b->listed.getD j false=l1.getD j false)->(∀ j,b<=j->listed.getD j false=false)->closedX ops.toList (fun j=>listed.getD j false=true) ->
  wpAny P .any (ops.extract 0 b) (Lift F0 w0 fun e st=>e = .normal/\K st) fuel l1 a w->wpAny P .any ops (Lift F0 w0 fun e st=>e = .normal/\K' st) (fuel+(ops.size-b)) listed a w:=by
 simp only [barrier,Bool.and_eq_true] at hbar
 obtain ⟨⟨hedge,hgd⟩,hwt⟩:=hbar
 have hedge':∀ p ∈ ops.toList.zipIdx,(p.1.after.all fun e=>!Region.binds .any e || decide (e.on<p.2))=true:=fun p hp=>List.all_eq_true.1 hedge p hp
 have hsz:(ops.extract 0 b).size=b:=by simp;omega
 have hex:∀ i,i<b->(ops.extract 0 b)[i]? = ops[i]?:=fun i hi=>by
  rw [Array.getElem?_extract,Nat.zero_add,if_pos (by omega)]
 have hedge1:∀ p ∈ (ops.extract 0 b).toList.zipIdx,(p.1.after.all fun e=>!Region.binds .any e || decide (e.on<p.2))=true:=by
  intro p hp
  have h1:=List.mem_zipIdx_iff_getElem?.1 hp
  rw [Array.getElem?_toList] at h1
  have hlt:p.2<b:=by have:=(Array.getElem?_eq_some_iff.1 h1).1;omega
  rw [hex _ hlt] at h1
  exact hedge' p (List.mem_zipIdx_iff_getElem?.2 (by rw [Array.getElem?_toList];exact h1))
 intro fuel
 induction fuel with
 | zero =>
  intro l1 listed a w h1 hls hlo hhi hcl h
  have hall:=alldone' hedge1 (by rw [h1,hsz]) h.1
  rw [Nat.zero_add]
  refine hT a w h.2 listed hls (fun j=>?_) hcl _ (Nat.le_refl _)
  by_cases hj:j<b
  ·rw [hlo j hj,hall j (by omega)];simp [hj]
  ·rw [hhi j (by omega)];simp [hj]
 | succ fuel ih =>
  intro l1 listed a w h1 hls hlo hhi hcl h
  by_cases hr:Region.ready .any (ops.extract 0 b) l1=[]
  ·have hall:=alldone' hedge1 (by rw [h1,hsz]) hr
   refine hT a w (h.1 hr) listed hls (fun j=>?_) hcl _ (by omega)
   by_cases hj:j<b
   ·rw [hlo j hj,hall j (by omega)];simp [hj]
   ·rw [hhi j (by omega)];simp [hj]
  have hlow:∀ {i:Nat},i ∈ Region.ready .any (ops.extract 0 b) l1->i ∈ Region.ready .any ops listed:=by
   intro i hi
   rw [mem_ready] at hi ⊢
   obtain ⟨h2,o,ho,hed⟩:=hi
   have hlt:i<b:=by have:=(Array.getElem?_eq_some_iff.1 ho).1;omega
   rw [hex i hlt] at ho
   have hlt':i<ops.size:=by omega
   refine ⟨?_,o,ho,fun e he hbd=>?_⟩
   ·have:=hlo i hlt
    rw [Array.getD_eq_getD_getElem?,Array.getD_eq_getD_getElem?,Array.getElem?_eq_getElem (by omega),Array.getElem?_eq_getElem (by omega)] at this
    rw [Array.getD_eq_getD_getElem?,Array.getElem?_eq_getElem (by omega)] at h2 ⊢
    simp only [Option.getD_some] at this h2 ⊢
    rw [this];exact h2
   ·have hzi:(o,i) ∈ ops.toList.zipIdx:=List.mem_zipIdx_iff_getElem?.2 (by rw [Array.getElem?_toList];exact ho)
    have:=hedge' _ hzi
    rw [Array.all_eq_true'] at this
    have:=this e he
    rw [hbd] at this
    have hlt2:e.on<i:=by simpa using this
    rw [hlo _ (by omega)];exact hed e he hbd
  obtain ⟨i0,hi0⟩:=List.exists_mem_of_ne_nil _ hr
  rw [show fuel+1+(ops.size-b)=(fuel+(ops.size-b))+1 from by omega]
  refine ⟨fun hn=>?_,fun i hi=>?_⟩
  ·have:=hlow hi0
   rw [hn] at this;cases this
  have hi2:=hi
  rw [mem_ready] at hi
  obtain ⟨h2,o,ho,hed⟩:=hi
  have hil:i<ops.size:=(Array.getElem?_eq_some_iff.1 ho).1
  have hib:i<b:=by
   rcases Nat.lt_or_ge i b with h | h
   ·exact h
   ·exfalso
    have hw:=waits_all hcl ho hed
    have h3:=List.all_eq_true.1 hwt i (by rw [List.mem_range];simpa using hil)
    have h4:∀ j,j<b->((waits ops.toList).getD i 0).testBit j=true:=by
     simp only [Bool.or_eq_true,decide_eq_true_eq] at h3
     have h3:=h3.resolve_left (by omega)
     intro j hj
     exact List.all_eq_true.1 h3 j (by rw [List.mem_range];exact hj)
    rw [mem_ready] at hi0
    obtain ⟨h5,o5,ho5,_⟩:=hi0
    have hlt:i0<b:=by have:=(Array.getElem?_eq_some_iff.1 ho5).1;omega
    have h6:=hw i0 (h4 i0 hlt)
    rw [hlo _ hlt,Array.getD_eq_getD_getElem?,Array.getElem?_eq_getElem (by omega)] at h6
    rw [Array.getD_eq_getD_getElem?,Array.getElem?_eq_getElem (by omega)] at h5
    simp only [Option.getD_some] at h5 h6
    rw [h5] at h6;cases h6
  have hir:i ∈ Region.ready .any (ops.extract 0 b) l1:=by
   rw [mem_ready]
   refine ⟨?_,o,by rw [hex i hib];exact ho,fun e he hbd=>?_⟩
   ·have:=hlo i hib
    rw [Array.getD_eq_getD_getElem?,Array.getD_eq_getD_getElem?,Array.getElem?_eq_getElem (by omega),Array.getElem?_eq_getElem (by omega)] at this
    rw [Array.getD_eq_getD_getElem?,Array.getElem?_eq_getElem (by omega)] at h2 ⊢
    simp only [Option.getD_some] at this h2 ⊢
    rw [<-this];exact h2
   ·have h7:=hed e he hbd
    by_cases hej:e.on<b
    ·rw [<-hlo _ hej];exact h7
    ·rw [hhi _ (by omega)] at h7;cases h7
  have hset:=set_listed (listed:=listed) hls hil
  have hset1:=set_listed (listed:=l1) h1 hib
  refine wpOp_cut (hex i hib) (fun o' ho' g hg=>hex _ ?_) (fun a w hw=>?_) (h.2 i hir)
  ·have hmem:o' ∈ ops.toList.take b:=by
    refine List.mem_of_getElem? (i:=i) ?_
    rw [List.getElem?_take,if_pos hib,Array.getElem?_toList];exact ho'
   have:=List.all_eq_true.1 hgd o' hmem
   rw [hg] at this
   simpa using this
  ·refine ih _ _ a w (by simp [h1]) (by simp [hls]) (fun j hj=>?_) (fun j hj=>?_) (closed_set hls ho hed hcl) hw
   ·rw [hset,hset1];split
    ·rfl
    ·exact hlo j hj
   ·rw [hset,if_neg (by omega)];exact hhi j hj
theorem any_cut {ops:Array Oper} {b:Nat} {cs1 cs:List COper} {q:Nat->Bool} (hb:b<=ops.size) (hbar:barrier ops.toList b=true) (hcs1:CompD P (ops.extract 0 b) cs1) (hchk:dcheck (ops.extract 0 b).toList cs1 q=true)
 (hcs:ops.toList.mapM (compO P ops)=some cs) {K:St->Prop} {st:St} {a:Act} {w:World} (hsim:Sim F0 w0 st a w)
 (h:Qops P st.objs (csP cs1 q) (fun tmps cr=>RopsL P (restQ cs1 (waits (ops.extract 0 b).toList) q 0) (RT P (treeT (waits ops.toList) cs (ops.size-b) (List.range' b (ops.size-b))) K) ⟨tmps,st.objs++cr⟩) st.tmps []) :
 wpAny P .any ops (Lift F0 w0 fun e st=>e = .normal/\K st) ops.size (Array.replicate ops.size false) a { w with drawn:=w.drawn+1 }:=by
 have hf:∀ n j,(Array.replicate n false).getD j false=false:=by
  intro n j;rw [Array.getD_eq_getD_getElem?,Array.getElem?_replicate];split <;> rfl
 have hsz:(ops.extract 0 b).size=b:=by simp;omega
 have h1:=any_drawn hcs1 hchk hsim h
 have hedge:∀ p ∈ ops.toList.zipIdx,(p.1.after.all fun e=>!Region.binds .any e || decide (e.on<p.2))=true:=by
  have hbar':=hbar
  simp only [barrier,Bool.and_eq_true] at hbar'
  exact fun p hp=>List.all_eq_true.1 hbar'.1.1 p hp
 rw [hsz] at h1
 have h2:=cut_ok (P:=P) (F0:=F0) (w0:=w0) (K':=K) hb hbar (fun a w hq listed hls hl hcl m hm=>?_) b _ (Array.replicate ops.size false) a _ (by simp) (by simp) (fun j hj=>by rw [hf,hf]) (fun j hj=>hf _ j) (fun i o ho (hX:(Array.replicate ops.size false).getD i false=true)=>by rw [hf] at hX;cases hX) h1
 ·rwa [show b+(ops.size-b)=ops.size from by omega] at h2
 ·obtain ⟨st',⟨_,hK⟩,hs'⟩:=hq
  refine tail_ok hcs hedge (ops.size-b) (List.range' b (ops.size-b)) (by simp) List.nodup_range' (fun j hj=>by rw [List.mem_range'_1] at hj;omega) listed hls (fun j hj=>?_) hcl st' a w hs' hK m hm
  rw [hl,List.mem_range'_1];simp;omega
end Dak
namespace Dak
open Go Go.RowKit
variable [Globs]
variable {P : Program} {Q : Exit -> Act -> World -> Prop}
def pureF:Op->Bool
 | .move _ | .assign _ | .extract _ _=>true
 | _=>false
def okF (ops:Array Oper) (f:Nat):Bool :=
 match ops[f]? with
 | some o=>pureF o.op && o.guard.isNone && o.dst.isSome && Region.noSelect ops && (List.range ops.size).all fun j=>j == f || ((waits ops.toList).getD f 0).testBit j || match ops[j]? with
  | some oj=>oj.after.any (fun e=>Region.binds .any e && e.on == f) || o.apart ops oj
  | none=>true
 | none=>false
def addC (ops:Array Oper) (f j:Nat):Bool :=
 let ws:=waits ops.toList
 decide (f<j) && !(ws.getD j 0).testBit f && match ops[f]? with
  | some o=>o.after.all fun e=>!Region.binds .any e || (ws.getD j 0).testBit e.on
  | none=>false
def addE (ops:Array Oper) (f:Nat):Array Oper :=
 if okF ops f then ops.mapIdx fun j o=>if addC ops f j then { o with after:=o.after.push ⟨f,.data⟩ } else o else ops
theorem addE_get {ops:Array Oper} {f j:Nat} (hf:okF ops f=true):(addE ops f)[j]? = (ops[j]?).map fun o=>if addC ops f j then { o with after:=o.after.push ⟨f,.data⟩ } else o:=by
 unfold addE
 rw [if_pos hf,Array.getElem?_mapIdx]
theorem addE_size (ops:Array Oper) (f:Nat):(addE ops f).size=ops.size:=by
 unfold addE;split <;> simp
theorem addE_dst {ops:Array Oper} {f j:Nat} (hf:okF ops f=true):((addE ops f)[j]?).bind (·.dst)=(ops[j]?).bind (·.dst):=by
 rw [addE_get hf]
 cases ops[j]? with
 | none=>rfl
 | some o=>simp only [Option.map_some,Option.bind_some];split <;> rfl
theorem addE_op {ops:Array Oper} {f j:Nat} {o:Oper} (h:ops[j]? = some o):∃ o',(addE ops f)[j]? = some o'/\o'.op=o.op:=by
 by_cases hf:okF ops f=true
 ·rw [addE_get hf,h]
  refine ⟨_,rfl,?_⟩
  split <;> rfl
 ·refine ⟨o,?_,rfl⟩
  unfold addE;rw [if_neg hf];exact h
theorem wpOp_addE {ops:Array Oper} {f j:Nat} (hf:okF ops f=true) {T:Act->World->Prop} {a:Act} {w:World}:wpOp P (addE ops f) Q j T a w ↔ wpOp P ops Q j T a w:=by
 have hy:yielded (addE ops f) a.tmps=yielded ops a.tmps:=by
  funext k
  unfold yielded
  rw [addE_dst hf]
 unfold wpOp
 rw [addE_get hf]
 cases ops[j]? with
 | none=>exact Iff.rfl
 | some o =>
  simp only [Option.map_some]
  rw [hy]
  split <;> exact Iff.rfl
theorem yields_pure {ops:Array Oper} {o:Oper} (hp:pureF o.op=true) (hg:o.guard=none) {a:Act} {w:World} {T:Act->World->Prop} {i:Nat} (hi:ops[i]? = some o) (hl:¬ LetsOut Q) (hQ:∀ c a w,¬ Q (.panic c) a w) (h:wpOp P ops Q i T a w) :
 ∃ v,Yields P ops o v a/\T (a.put o.dst v) w:=by
 have hw:Region.wanted o (yielded ops a.tmps)=true:=by unfold Region.wanted;rw [hg]
 unfold wpOp at h
 simp only [hi,hw,if_true] at h
 have h:=h.resolve_right fun hh=>hl hh.2
 obtain ⟨dst,op,type,pos,after,guard⟩:=o
 unfold Oper.wp at h
 cases op with
 | move x=>exact ⟨a.eval x,.inl ⟨hw,fun _=>rfl⟩,h⟩
 | assign x=>exact ⟨a.eval x,.inl ⟨hw,fun _=>rfl⟩,h⟩
 | extract x k =>
  cases hx:a.eval x with
  | tuple vs =>
   cases hk:vs[k]? with
   | some v =>
    have hrun:∀ w,(execOp a.eval (⟨dst,.extract x k,type,pos,after,guard⟩:Oper)).run P w = .ok (.value v) w:=by
     intro w;simp [execOp,hx,Instr.extract,hk]
    rw [hrun w] at h
    exact ⟨v,.inl ⟨hw,hrun⟩,h⟩
   | none =>
    have hrun:∃ r,(execOp a.eval (⟨dst,.extract x k,type,pos,after,guard⟩:Oper)).run P w = .halt (.stuck r) w:=by
     simp [execOp,hx,Instr.extract,hk]
    obtain ⟨r,hrun⟩:=hrun
    rw [hrun] at h;exact h.elim
  | _ =>
   have hrun:∃ r,(execOp a.eval (⟨dst,.extract x k,type,pos,after,guard⟩:Oper)).run P w = .halt (.stuck r) w:=by
    simp [execOp,hx,Instr.extract]
   obtain ⟨r,hrun⟩:=hrun
   rw [hrun] at h;exact h.elim
 | _=>cases hp
theorem getD_tf {l:Array Bool} {j:Nat} (h:j<l.size):l.getD j true=l.getD j false:=by
 rw [Array.getD_eq_getD_getElem?,Array.getD_eq_getD_getElem?,Array.getElem?_eq_getElem h];rfl
theorem closed_put {ops:Array Oper} {listed:Array Bool} {i:Nat} (hc:closedX ops.toList (fun j=>listed.getD j false=true)) (hi:i ∈ Region.ready .any ops listed) :
 closedX ops.toList (fun j=>(listed.setIfInBounds i true).getD j false=true):=by
 intro j o hj hX e he hb
 by_cases hji:i=j
 ·subst hji
  obtain ⟨_,o',ho',hall⟩:=mem_ready.1 hi
  rw [Array.getElem?_toList] at hj
  rw [hj] at ho';cases ho'
  exact getD_set_true (hall e (by simpa using he) hb)
 ·have hX':(listed.setIfInBounds i true).getD j false=true:=hX
  rw [getD_set_ne false hji] at hX'
  exact getD_set_true (hc j o hj hX' e he hb)
theorem any_addE {ops:Array Oper} {f:Nat} (hl:¬ LetsOut Q) (hQ:∀ c a w,¬ Q (.panic c) a w):∀ (fuel:Nat) (listed:Array Bool) (a:Act) (w:World),listed.size=ops.size->closedX ops.toList (fun j=>listed.getD j false=true) ->
 wpAny P .any (addE ops f) Q fuel listed a w->wpAny P .any ops Q fuel listed a w:=by
 by_cases hf:okF ops f=true
 rotate_left
 ·intro fuel listed a w _ _ h
  have e:addE ops f=ops:=by unfold addE;rw [if_neg hf]
  rwa [e] at h
 have hf':=hf
 unfold okF at hf'
 split at hf'
 rotate_left
 ·cases hf'
 rename_i of hof
 simp only [Bool.and_eq_true,Option.isNone_iff_eq_none] at hf'
 obtain ⟨⟨⟨⟨hp,hg⟩,hd⟩,hns⟩,hall⟩:=hf'
 have hflt:f<ops.size:=(Array.getElem?_eq_some_iff.1 hof).1
 have hof':(addE ops f)[f]? = some of:=by
  rw [addE_get hf,hof]
  simp [addC]
 have sub:∀ listed:Array Bool,listed.size=ops.size->∀ j,j ∈ Region.ready .any (addE ops f) listed->j ∈ Region.ready .any ops listed:=by
  intro listed hsz j hj
  rw [mem_ready] at hj ⊢
  obtain ⟨h0,o',ho',hal⟩:=hj
  rw [addE_get hf] at ho'
  obtain ⟨o,ho,rfl⟩:=Option.map_eq_some_iff.1 ho'
  refine ⟨h0,o,ho,fun e he hb=>hal e ?_ hb⟩
  split
  ·exact Array.mem_push_of_mem _ he
  ·exact he
 have sup:∀ listed:Array Bool,listed.size=ops.size->closedX ops.toList (fun j=>listed.getD j false=true)->f ∉ Region.ready .any ops listed->∀ j,j ∈ Region.ready .any ops listed->j ∈ Region.ready .any (addE ops f) listed:=by
  intro listed hsz hc hnf j hj
  have hj':=hj
  rw [mem_ready] at hj ⊢
  obtain ⟨h0,o,ho,hal⟩:=hj
  refine ⟨h0,_,by rw [addE_get hf,ho];rfl,fun e he hb=>?_⟩
  split at he
  ·rename_i hadd
   rcases Array.mem_push.1 he with he | rfl
   ·exact hal e he hb
   ·simp only
    cases hX:listed.getD f false with
    | true=>rfl
    | false =>
     exfalso
     refine hnf (mem_ready.2 ⟨by rw [getD_tf (by omega)];exact hX,of,hof,fun e he hb=>?_⟩)
     unfold addC at hadd
     rw [hof] at hadd
     simp only [Bool.and_eq_true] at hadd
     have h3:=hadd.2
     rw [Array.all_eq_true_iff_forall_mem] at h3
     have h4:=h3 e he
     rw [hb] at h4
     simp only [Bool.not_true,Bool.false_or] at h4
     refine waits_ok (fun j=>listed.getD j false=true) ops.toList [] [] rfl (by simpa using hc) (fun i o h=>by simp at h) j o ?_ (fun e he hb=>hal e (by simpa using he) hb) e.on h4
     simpa using ho
  ·exact hal e he hb
 intro fuel
 induction fuel with
 | zero =>
  intro listed a w hsz hc h
  refine ⟨?_,h.2⟩
  by_cases hfr:f ∈ Region.ready .any ops listed
  ·exfalso
   have:f ∈ Region.ready .any (addE ops f) listed:=by
    obtain ⟨h0,o,ho,hal⟩:=mem_ready.1 hfr
    rw [hof] at ho;cases ho
    exact mem_ready.2 ⟨h0,of,hof',hal⟩
   rw [h.1] at this;cases this
  ·rw [List.eq_nil_iff_forall_not_mem]
   intro j hj
   have:=sup listed hsz hc hfr j hj
   rw [h.1] at this;cases this
 | succ fuel ih =>
  intro listed a w hsz hc h
  by_cases hfr:f ∈ Region.ready .any ops listed
  ·obtain ⟨h0,o,ho,hal⟩:=mem_ready.1 hfr
   rw [hof] at ho;cases ho
   have hfr':f ∈ Region.ready .any (addE ops f) listed:=mem_ready.2 ⟨h0,of,hof',hal⟩
   have h1:=(wpOp_addE hf).1 (h.2 f hfr')
   obtain ⟨v,hy,h2⟩:=yields_pure hp hg hof hl hQ h1
   refine wpAny_first hof (Region.noSelect_spec hns) (fun c a w hh=>absurd hh (hQ _ _ _)) fuel listed a w (fun j oj hj hne hun hno=>?_) hfr hy (ih _ _ _ (by simp [hsz]) (closed_put hc hfr) h2)
   have h3:=List.all_eq_true.1 hall j (List.mem_range.2 (Array.getElem?_eq_some_iff.1 hj).1)
   simp only [hj,Bool.or_eq_true,beq_iff_eq,hne,false_or] at h3
   rcases h3 with h3 | h3 | h3
   ·exfalso
    have hw:=waits_ok (fun j=>listed.getD j false=true) ops.toList [] [] rfl (by simpa using hc) (fun i o h=>by simp at h) f of (by simpa using hof) (fun e he hb=>hal e (by simpa using he) hb) j h3
    rw [getD_tf (by have:=(Array.getElem?_eq_some_iff.1 hj).1;omega)] at hun
    rw [hun] at hw;cases hw
   ·obtain ⟨e,he,hb⟩:=Array.any_eq_true'.1 h3
    simp only [Bool.and_eq_true,beq_iff_eq] at hb
    exact absurd hb.2 (hno e he hb.1)
   ·exact h3
  ·refine ⟨fun hr=>h.1 ?_,fun i hi=>?_⟩
   ·rw [List.eq_nil_iff_forall_not_mem]
    intro j hj
    have:=sub listed hsz j hj
    rw [hr] at this;cases this
   ·exact wpOp_mono (fun a' w' h'=>ih _ a' w' (by simp [hsz]) (closed_put hc hi) h') ((wpOp_addE hf).1 (h.2 i (sup listed hsz hc hfr i hi)))
def calls (ops:Array Oper):Nat:=ops.toList.zipIdx.foldl (fun s p=>match p.1.op with
 | .call c=>match c.callee with
  | .value _=>s ||| 2 ^ p.2
  | _=>s
 | _=>s) 0
def strong (ops:Array Oper):Array Oper :=
 let m:=calls ops
 let ws:=waits ops.toList
 (List.range ops.size).foldl (fun acc f=>if (ws.getD f 0) &&& m=0 then acc else addE acc f) ops
theorem any_strong {ops:Array Oper} (hl:¬ LetsOut Q) (hQ:∀ c a w,¬ Q (.panic c) a w) {a:Act} {w:World} (h:wpAny P .any (strong ops) Q ops.size (Array.replicate ops.size false) a w):wpAny P .any ops Q ops.size (Array.replicate ops.size false) a w:=by
 have hclosed:∀ (n:Nat) (ops':Array Oper),closedX ops'.toList (fun j=>(Array.replicate n false).getD j false=true):=by
  intro n ops' i o hi hX
  have hX:(Array.replicate n false).getD i false=true:=hX
  rw [Array.getD_eq_getD_getElem?,Array.getElem?_replicate] at hX
  split at hX <;> cases hX
 unfold strong at h
 simp only at h
 revert h
 generalize List.range ops.size=l
 have key:∀ (l:List Nat) (acc:Array Oper),acc.size=ops.size->wpAny P .any (l.foldl (fun acc f=>if ((waits ops.toList).getD f 0) &&& calls ops=0 then acc else addE acc f) acc) Q ops.size (Array.replicate ops.size false) a w ->
  wpAny P .any acc Q ops.size (Array.replicate ops.size false) a w:=by
  intro l
  induction l with
  | nil=>exact fun _ _ h=>h
  | cons f l ih =>
   intro acc hs h
   simp only [List.foldl_cons] at h
   split at h
   ·exact ih acc hs h
   ·exact any_addE hl hQ _ _ _ _ (by simp [hs]) (hclosed _ _) (ih _ (by rw [addE_size];exact hs) h)
 exact key l ops rfl
theorem strong_op {ops:Array Oper} {j:Nat} {o:Oper} (h:ops[j]? = some o):∃ o',(strong ops)[j]? = some o'/\o'.op=o.op:=by
 unfold strong
 simp only
 have key:∀ (l:List Nat) (acc:Array Oper),(∃ o',acc[j]? = some o'/\o'.op=o.op)->∃ o',(l.foldl (fun acc f=>if ((waits ops.toList).getD f 0) &&& calls ops=0 then acc else addE acc f) acc)[j]? = some o'/\o'.op=o.op:=by
  intro l
  induction l with
  | nil=>exact fun _ h=>h
  | cons f l ih =>
   intro acc h
   simp only [List.foldl_cons]
   split
   ·exact ih acc h
   ·obtain ⟨o',h1,h2⟩:=h
    obtain ⟨o2,h3,h4⟩:=addE_op (f:=f) h1
    exact ih _ ⟨o2,h3,h4.trans h2⟩
 exact key _ ops ⟨o,h,rfl⟩
theorem strong_size (ops:Array Oper):(strong ops).size=ops.size:=by
 unfold strong
 simp only
 have key:∀ (l:List Nat) (acc:Array Oper),(l.foldl (fun acc f=>if ((waits ops.toList).getD f 0) &&& calls ops=0 then acc else addE acc f) acc).size=acc.size:=by
  intro l
  induction l with
  | nil=>exact fun _=>rfl
  | cons f l ih =>
   intro acc
   simp only [List.foldl_cons]
   split
   ·exact ih acc
   ·rw [ih,addE_size]
 exact key _ ops
end Dak
