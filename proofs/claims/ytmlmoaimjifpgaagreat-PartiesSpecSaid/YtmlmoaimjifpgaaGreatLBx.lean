/- A box beside an accumulator. -/
import Derived.Test.YtmlmoaimjifpgaaGreatLFr
import Derived.Test.YtmlmoaimjifpgaaGreatLVf
import Derived.Test.YtmlmoaimjifpgaaGreatLNt
namespace Go.Pv
def accB {α:Type}:Option (Acc α)->List Nat
 | none=>[]
 | some a=>[a.b]
theorem Cls_box {α:Type}{T:TypeId}{b:Nat}{x:PObj}{st:q5f}(o:Option (Acc α)):Cls ((b,x)::q6e T st o) (accB o) ((b,x)::st):=by
 cases o with
 | none=>exact Cls.self _ _
 | some a=>
  refine j0g fun c hc y hy=>?_
  have h:¬ c=a.b:=by simpa [accB] using hc
  have h2:¬ a.b=c:=fun e=>h e.symm
  simpa [q6e,q55,h,h2] using hy
theorem accB_new {α:Type}{T:TypeId}{b:Nat}{st:q5f}{o:Option (Acc α)}(h:q54 (q6e T st o) b):b ∉ accB o/\q54 st b:=by
 cases o with
 | none=>exact⟨by simp [accB],h⟩
 | some a=>exact⟨by simpa [accB] using h.1.2,h.2⟩
theorem xappend_box {α:Type}{row:List α->List PV}{k:Nat}(hrl:∀ l,(row l).length=l.length*k)(hra:∀ l m,row (l++m)=row l++row m){T T':TypeId}{bytes b:Nat}{R:List PV}{st:q5f}{K:PV->q5f->Prop}
  (o:Option (Acc α)) (ho:accOk row k st o) (hb:q54 (q6e T st o) b) (xs:List α) {new:List PV} {m:Nat} (hnew:row xs=new) (hm:xs.length=m) (hm0:0<m) (hsz:((q50 o).length+m)*bytes<=140737488355328)
  (h:∀ o':Option (Acc α),accOk row k ((b,.arr T' R)::st) o'->q50 o'=q50 o++xs->K (q7s o') (q6e T ((b,.arr T' R)::st) o')):q67 T bytes k (q7s o) new m ((b,.arr T' R)::q6e T st o) K:=
 k7l (row':=fun _:List Unit=>[]) (k':=R.length) (T':=T') hrl hra o (some ⟨[],b,1,R⟩) ho ⟨⟨by simp,by simp,by simp,by simp⟩,hb⟩ xs hnew hm hm0 hsz h
theorem StLe.box {α:Type}{T:TypeId}{b:Nat}{x:PObj}{st:q5f}(o:Option (Acc α))(hb:q54 st b):StLe (q6e T st o) (q6e T ((b,x)::st) o):=by
 cases o with
 | none=>exact .fresh hb
 | some a=>exact q9r (.fresh hb)
theorem accOk.unbox {α:Type}{row:List α->List PV}{k:Nat}{b:Nat}{x:PObj}{st:q5f}{o:Option (Acc α)}(h:accOk row k ((b,x)::st) o):accOk row k st o:=by
 cases o with
 | none=>trivial
 | some a=>exact⟨h.1,h.2.2⟩
theorem PLe.lists {ps qs:List PV}{t:Bool}{n:Nat}(h:PsLe ps qs):PLe (.list t ps n) (.list t qs n):=fun I v hv=>by
 simp only [vrep] at hv ⊢
 obtain⟨a,cap,vs,h1,h2,h3,h4,h5,h6⟩:=hv
 have hl:ps.length=qs.length:=(q5u h5).trans (q5u (h.vcells I vs h5)).symm
 refine⟨a,cap,vs,h1,h2,h3,h4,h.vcells I vs h5, ?_⟩
 first | exact h6 | (rw [<-hl]; exact h6)
end Go.Pv
