/- DeskPlays: Play answers just what the document says, errors too, whatever it is handed. No condition. -/
import Derived.Test.YtpcjkfppacnkgaaGreatDoorGPBJ
import Derived.Test.YtpcjkfppacnkgaaGreatDoorTie
import Derived.Test.YtpcjkfppacnkgaaGreatDoorCards
set_option maxHeartbeats 4000000
set_option maxRecDepth 100000
namespace Go.Proofs.YtpcjkfppacnkgaaGreatDoor.deskPlays
open Go Go.RowKit Go.ChangeShapes Go.WideShapes Go.ChangeAt
theorem walk (w:World) (hg:Glob w) (qb:ByteArray) (_:qb.size≤maxLen) (tb:ByteArray) (ht:tb.size≤maxLen) :
  Calls Tryz.prog 3 #[.string qb,.string tb] w fun e w'=>e=.returned (.bool true)∧Ext w w':=by
 obtain⟨q,rfl⟩:∃q:By,qb=⟨q.toArray⟩:=⟨qb.data.toList,by cases qb;simp⟩
 obtain⟨t,rfl⟩:∃t:By,tb=⟨t.toArray⟩:=⟨tb.data.toList,by cases tb;simp⟩
 rw [yN] at ht;have HG:=eH hg;have HD:=eH (fun w=>playOf_any q t w ht);have HI:=eH (fun w hg=>play_any q t w hg);obtain⟨⟨a,r⟩,hz⟩:∃z,qB q t=z:=⟨_,rfl⟩
 rw [hz] at HD HI;obtain⟨A,hA⟩:∃A:ByteArray,(⟨a.toArray⟩:ByteArray)=A:=⟨_,rfl⟩
 obtain⟨Q,hQ⟩:∃Q:ByteArray,(⟨q.toArray⟩:ByteArray)=Q:=⟨_,rfl⟩
 obtain⟨X,hX⟩:∃X:ByteArray,(⟨t.toArray⟩:ByteArray)=X:=⟨_,rfl⟩
 replace HD:Hid (∀w,Calls Tryz.prog 8 #[.string Q,.string X] w fun e w'=>e=.returned (.tuple #[.string A,.int .i64 r])∧Ext w w'):=by
  unfold Hid;intro w;rw [←hA,←hQ,←hX];exact HD.out w
 replace HI:Hid (∀w,Glob w→Calls Tryz.prog 7 #[.string Q,.string X] w fun e w'=>e=.returned (.tuple #[.string A,.int .i64 r])∧Ext w w'):=by
  unfold Hid;intro w hg;rw [←hA,←hQ,←hX];exact HI.out w hg
 rw [hQ,hX];clear hg hz hA hQ hX ht;go_enter Tryz.func3,Tryz.ntmps3
 go_wp2_with (first
  | (go_at_call 7;(with_reducible refine(HI.out _ HG.out).mono ?_);rintro e w2 ⟨rfl,hb2⟩;have E2:=eH hb2;clear hb2)
  | (go_at_call 8;(with_reducible refine(HD.out _).mono ?_);rintro e w3 ⟨rfl,hb3⟩;have E3:=eH (E2.out.trans hb3);clear hb3)
  | (go_at_call 9;(with_reducible refine(deskBegun_any _ (HG.out.ext E3.out)).mono ?_);rintro e w4 ⟨rfl,hb4⟩;have E4:=eH (E3.out.trans hb4)))
 go_ret;exact⟨rfl,E4.out⟩
theorem contract (H:Type) (enc:TypeId × Value→H) (W:World) (base:Nat) (args:Array Value) (ds gs:List (DataW H)) (before:List MemPlace)
  (hval:∀(j:Nat) t v,Tryz.f3.params[j]?=some t→args[j]?=some v→Value.okWide Tryz.prog W .any base t v)
  (hW:DataW.Whole enc Tryz.prog Tryz.f3.params.toList Rows.deskPlaysSpec.vars false W args.toList ds gs before)
  (hsz:(DataW.weightsEach Tryz.prog (Tryz.f3.params.toList++Rows.deskPlaysSpec.plain.varTypes Tryz.prog) (ds++gs)).all (·≤reachBytes)=true) (hg:Glob W) :
  Calls Tryz.prog 3 args W fun e W'=>∃v,e=.returned v∧Rows.deskPlaysSpec.post enc Tryz.prog Tryz.f3 false true false false W args v W':=by
 have hW':=hW;obtain⟨p,q,hA,hV,rfl,hfz,hnd⟩:=hW;rw [Tryz.params3] at hA hval;obtain⟨v0,vs0,d0,ds0,q0,t0,hargs,rfl,rfl,h0,r0⟩:=trodAll_cons hA;obtain⟨v1,vs1,d1,ds1,q1,t1,rfl,rfl,rfl,h1,r1⟩:=trodAll_cons r0;obtain⟨rfl,rfl,rfl⟩:=trodAll_nil r1;obtain rfl:args=#[v0,v1]:=by cases args;simp_all
 obtain⟨rfl,rfl⟩:=trodVars_none hV;obtain⟨x0,rfl,rfl,rfl,hs0⟩:=Go.ChangeMaps.open_string Tryz.underlying9 (hval 0 9 v0 rfl rfl) h0;obtain⟨x1,rfl,rfl,rfl,hs1⟩:=Go.ChangeMaps.open_string Tryz.underlying9 (hval 1 9 v1 rfl rfl) h1;refine(walk W hg x0 hs0 x1 hs1).mono fun e W' ⟨he,hE⟩=>⟨_,he,law_post laidOut ?_ rfl Tryz.underlying4 rfl hW' ?_ hE⟩
 ·rw [Tryz.params3];intro t ht;simp at ht
  (try rcases ht with rfl)<;>exact⟨by kernel_rfl,of_decide_eq_true (by kernel_rfl)⟩
 ·intro ds hds
  match ds,hds with
  | [d0,d1],_=>exact⟨rfl,rfl,rfl⟩
theorem lifted (os:Os) (started:os.Started) (H:Type) (enc:TypeId × Value→H) :
  ReturnsInHanded {} Tryz.checked os 3 .any (fun w args=>(Rows.deskPlaysSpec.pre enc Tryz.prog Tryz.f3 Rows.deskPlaysRow.domain false w args∧laidMetH Tryz.prog zHy w)∧sizedMet enc Tryz.prog Tryz.f3 (OpenSpec.ofChange Rows.deskPlaysSpec) false w args) (Rows.deskPlaysSpec.post enc Tryz.prog Tryz.f3 false true false false):=by
 refine lift_laid own started (by kernel_rfl) Tryz.func3
  (ChangeSpec.witness_shaped (enc:=enc) (C:=Tryz.checked) (os:=os) (X:=fun w _=>laidMetH Tryz.prog zHy w) false (World.laidAll Tryz.prog os zHy) #[.string ByteArray.empty,.string ByteArray.empty] 8 (World.laidAll_os _ _ _) (laid_shaped os _) (by kernel_rfl) (by kernel_rfl) (by kernel_rfl) (laid_met os _)) ?_
 intro W base args ds gs before hval hW hsz hg;exact contract H enc W base args ds gs before hval hW hsz hg
theorem proved:Rows.DeskPlaysSaid :=
 OpenClaim.holds_of_wide 3 Tryz.f3 rfl rfl rfl rfl rfl rfl rfl ⟨rfl,rfl,rfl,rfl,rfl⟩ rfl rfl rfl rfl rfl (by as_aux_lemma=>kernel_rfl) Tryz.func3 (by as_aux_lemma=>kernel_rfl)
  (of_decide_eq_true (by as_aux_lemma=>kernel_rfl)) (by unfold Func.isWrapper;rw [if_neg (of_decide_eq_false (by as_aux_lemma=>kernel_rfl))];exact⟨rfl,rfl⟩)
  (fun os started H enc _=>lifted os started H enc)
theorem carded:Rows.DeskPlaysCardSaid:=by
 refine Claim7.holds_tied_plain_at .later [] _ true _ true proved (fun _ h=>by cases h) (by kernel_rfl) (fun _ h=>by cases h) deskPlays_row_tie rfl ⟨rfl,rfl⟩ (by kernel_rfl) rfl (fun f fn hf hfn=>?_) (by kernel_rfl);obtain rfl:f=3:=Option.some.inj ((show Tryz.prog.funcNamed "glebe/glebelaw.DeskPlays"=some 3 by kernel_rfl).symm.trans hf) |>.symm;obtain rfl:fn=Tryz.f3:=(Option.some.inj (Tryz.func3.symm.trans hfn)).symm;refine⟨by kernel_rfl,fun j t ht=>?_⟩;rw [Tryz.params3] at ht;have hm:t∈[9,9]:=by simpa using Array.mem_of_getElem? ht
 have hall:([9,9].all fun u=>!Tryz.prog.wantsStandIn u)=true:=by kernel_rfl
 exact(show Tryz.prog.wantsStandIn t=false by simpa using List.all_eq_true.1 hall t hm)
end Go.Proofs.YtpcjkfppacnkgaaGreatDoor.deskPlays
