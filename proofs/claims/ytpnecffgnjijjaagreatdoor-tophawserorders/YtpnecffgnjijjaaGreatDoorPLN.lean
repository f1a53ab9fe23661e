/- Functions of the library whose contracts are plain: what they hand back, a world that is as it was but for new blocks. Conditions: none. -/
import Derived.Test.YtpnecffgnjijjaaGreatDoorSvB
import Derived.Below
set_option linter.all false
namespace Go.Sv
open Go.Idl Go.RowKit
theorem Rel.below {P:Program}{f:Inj}{H:IH}{w w':World}(hR:Rel P f H w)(hb:Below w.heap.size w w'):Rel P f H w' where
 dom:=hR.dom
 fresh:=hR.fresh
 bound b e h:=zM4 (hR.bound b e h) hb.size
 obj b e o h1 h2:=by rw[hb.block _ (hR.bound b e h1)];exact hR.obj b e o h1 h2
 sep:=hR.sep
 zFU:=hR.zFU
theorem Grow.below {P:Program}{f:Inj}{H:IH}{w w':World}(hb:Below w.heap.size w w'):Grow f H w f H w' where
 zF7:=zM0 _
 stay _ _ h:=h
 le:=fun _ _ h=>h
 size:=hb.size
 keep r hr hn:=⟨hn,hb.block r hr⟩
 un r _ h:=h
 lps r h:=⟨h.choose,(hb.block r h.lt).trans h.choose_spec⟩
 out:=⟨hb.os,hb.output,hb.tape⟩
theorem gP.quiet {P:Program}{G:Nat->Bool}{g:FuncId}{args:List Value}{v:Value}{H:IH}{Q:Value×IH->Prop}(ha:zQ args=true)(hv:∀ f,zFB P f v v)
 (hc:∀ (f:Inj) (w:World),Rel P f H w->uY G f->Calls P g args.toArray w fun e w'=>e=.returned v∧Below w.heap.size w w') (hq:Q (v,H)):gP P G g args H Q:=by
 intro args' f w hR hG hA;have:=hA.plain ha;subst this;refine callsIn_wide.2 ((hc f w hR hG).mono ?_);rintro e w' ⟨rfl,hb⟩;exact⟨v,(v,H),f,rfl,hq,Rel.below hR hb,Grow.below (P:=P) hb,hv f⟩
end Go.Sv
namespace Go.Sv
open Go.Idl Go.RowKit
variable [Gc]{P:Program}{G:Nat->Bool}{good:FuncId->Bool}{T:yY}{IT:List (FuncId×zFV)}
theorem Lib.zG3 (L:Lib P good G T IT)(g:FuncId)(as rs:List Ty)(F:TyL as->Option (TyL rs))(hent:enters P g=true)
 (h:∀ x y,F x=some y->∃ (vs:List Value) (v:Value),(enL as).p x=vs.map (fun v=>PV.f (.v v))∧kY rs y=ofC v∧zQ vs=true∧(∀ f,zFB P f v v) ∧
   ∀ (f:Inj) (H:IH) (w:World),GlH H->Rel P f H w->uY G f->Calls P g vs.toArray w fun e w'=>e=.returned v∧Below w.heap.size w w'):Lib P good G ((g,⟨as,rs,F⟩)::T) IT:=by
 refine L.zGW g as rs F hent fun {nat} s x y args H hF hZ hb hg=>?_
 obtain⟨vs,v,h1,h2,h3,h4,h5⟩:=h x y hF;obtain⟨Z,hv,hz⟩:=hZ
 have hargs:args=vs:=by
  rw[h1] at hv;have hl:=hv.len;rw[zNA] at hl;apply zOI;intro i
  cases hi:vs[i]? with
  | none =>
    rw[zPZ] at hi ⊢;omega
  | some u =>
    have hlt:i < args.length:=by rw[<-hl];exact (zM6.1 hi).1
    rw[zM2 hlt];have:=hv.val i (PV.f (.v u)) args[i] (by rw[zNC,hi];rfl) (zM2 hlt)
    cases this with
    | f r=>cases r;rfl
 subst hargs;refine gP.quiet h3 h4 (fun f w hR hG=>h5 f H w hg hR hG) ⟨⟨zM0 _,rfl,fun _ _=>rfl⟩,y,hF,fun _=>False,fun _ h=>h.elim,fun _ h=>h.elim,?_⟩;rw[h2];exact qBK v
end Go.Sv
