/- Contracts and plain facts. -/
import Derived.Test.YtpcjkfppacnkgaaGreatDoorGPAN
set_option maxHeartbeats 4000000
set_option maxRecDepth 100000
namespace Go.Proofs.YtpcjkfppacnkgaaGreatDoor
open Go Go.RowKit
structure FrameAt (w:World) (b o:Nat) (x:GFrame) (vl vs:Value):Prop where
 f:w.cell? ⟨b,o,none⟩=some (.int .i64 x.func)
 a:w.cell? ⟨b,o+1,none⟩=some (.int .i64 x.at_)
 l:w.cell? ⟨b,o+2,none⟩=some vl
 s:w.cell? ⟨b,o+3,none⟩=some vs
theorem FrameAt.ext {w w':World} {b o:Nat} {x:GFrame} {vl vs:Value} (h:FrameAt w b o x vl vs) (he:Ext w w'):FrameAt w' b o x vl vs:=⟨eC he h.f,eC he h.a,eC he h.l,eC he h.s⟩
theorem vX.at' {w:World} {S:Nat→Prop} {a:Option Addr} {fs:List GFrame} {n c:Nat} (h:vX w S (.slice a n c) fs) {k:Nat} (hk:k<fs.length) :
  ∃b o al cl as_ cs,a=some ⟨b,o,none⟩∧FrameAt w b (o+k * 4) (fs.getD k default) (.slice al (fs.getD k default).locals.length cl) (.slice as_ (fs.getD k default).stack.length cs) ∧
   zAh w S (.agg #[.int .i64 (fs.getD k default).func,.int .i64 (fs.getD k default).at_,.slice al (fs.getD k default).locals.length cl,.slice as_ (fs.getD k default).stack.length cs]) (fs.getD k default):=by
 have e:fs.getD k default=fs[k]:=by simp [List.getD,List.getElem?_eq_getElem hk]
 rw [e];obtain⟨b,o,c',e1,_,_,⟨_,x0,i0⟩,⟨_,x1,i1⟩,⟨vl,x2,hl⟩,⟨vs,x3,hs⟩⟩:=h.get hk;simp only [Value.slice.injEq] at e1;obtain⟨rfl,-,rfl⟩:=e1;have hl2:=hl;have hs2:=hs;obtain⟨al,cl,rfl,_,_,_⟩:=hl;obtain⟨as_,cs,rfl,_,_,_⟩:=hs;exact⟨b,o,al,cl,as_,cs,rfl,⟨x0,x1,x2,x3⟩,_,_,rfl,i0,i1,hl2,hs2⟩
theorem zAi.at' {w:World} {S:Nat→Prop} {a:Option Addr} {fs:List GFiber} {n c:Nat} (h:zAi w S (.slice a n c) fs) {k:Nat} (hk:k<fs.length) :
  ∃b o af cf,a=some ⟨b,o,none⟩∧w.cell? ⟨b,o+k * 2,none⟩=some (.slice af (fs.getD k default).frames.length cf)∧w.cell? ⟨b,o+k * 2+1,none⟩=some (.int .i64 (fs.getD k default).caller) ∧
   uW w S (.agg #[.slice af (fs.getD k default).frames.length cf,.int .i64 (fs.getD k default).caller]) (fs.getD k default):=by
 have e:fs.getD k default=fs[k]:=by simp [List.getD,List.getElem?_eq_getElem hk]
 rw [e];obtain⟨b,o,c',e1,_,_,⟨vf,x0,hf⟩,⟨_,x1,i1⟩⟩:=h.get hk;simp only [Value.slice.injEq] at e1;obtain⟨rfl,-,rfl⟩:=e1;have hf2:=hf;obtain⟨af,cf,rfl,_,_,_⟩:=hf;exact⟨b,o,af,cf,rfl,x0,x1,_,rfl,hf2,i1⟩
end Go.Proofs.YtpcjkfppacnkgaaGreatDoor
