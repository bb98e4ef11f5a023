/- The records written are the document's: the row, and its tied card. Condition: what the row says of the listed variables. -/
import Derived.Test.YtmglaebjmaomnaaGreatDoorTOd
open Option.some renaming inj→fZ
set_option linter.unusedVariables false
set_option maxRecDepth 100000
namespace Go.Proofs.YtmglaebjmaomnaaGreatDoor
open Go.ChangeShapes Go.WideShapes Go.ChangeAt Go.RowKit Go.Av.Fn Go.ChangeMaps Go.Av
theorem journalWrites_lifted(os:Os)(started:os.Started)(H:Type)(enc:TypeId×Value→H) :
  ReturnsInHanded {} Tryz.checked os 5 .any (fun w args=>(Rows.journalWritesSpec.pre enc Tryz.prog Tryz.f5 [] false w args∧laidMetH Tryz.prog FO w)∧sizedMet enc Tryz.prog Tryz.f5 (OpenSpec.ofChange Rows.journalWritesSpec) false w args)
   (Rows.journalWritesSpec.post enc Tryz.prog Tryz.f5 false true false false):=by
 refine returnsInHanded_of_change_and (C:=Tryz.checked) (X:=fun w _=>laidMetH Tryz.prog FO w) (fun _ _ _ hh h=>h.of_heap hh) own started (by kernel_rfl) Tryz.func5
  (ChangeSpec.witness_shaped (enc:=enc) (C:=Tryz.checked) (os:=os) (X:=fun w _=>laidMetH Tryz.prog FO w) false (World.doorLaid Tryz.prog 4000 os) #[.agg #[.int .i64 0,.int .i64 0,.int .i64 0,.string ⟨#[]⟩,.slice none 0 0],.int .i64 0,.agg #[.int .i64 0,.int .i64 0,.int .i64 0,.int .i64 0,.string ⟨#[]⟩,.int .i64 0,.int .i64 0,.string ⟨#[]⟩]] 8 rfl (World.shaped_of_RefB (by kernel_rfl) (by kernel_rfl)) (by kernel_rfl) (by kernel_rfl) (by kernel_rfl) (door_met os _)) ?_
 intro W base args ds gs before hval0 hW x1 x2 hL x3;have hval:∀ (j:Nat) t v,Tryz.f5.params[j]? = some t→args[j]? = some v→Value.okWide Tryz.prog W .any base t v:=hval0;have hW':=hW;obtain⟨p,q,hA0,hV,rfl,hfz,hnd⟩:=hW;have hA:DataW.TrodAll enc Tryz.prog W 0 (fun _=>true) true Tryz.f5.params.toList args.toList ds p:=hA0;rw[Tryz.params5]at hA hval x2;have hA2:=hA;obtain⟨v0,v1,v2,d0,d1,d2,p0,p1,p2,rfl,rfl,rfl,h0,h1,h2⟩:=trodAll_three hA;obtain⟨rfl,rfl⟩:=trodVars_none hV
 have hcall:Calls Tryz.prog 5 #[v0,v1,v2] W fun e W'=>e = .returned (.bool true)∧Below W.heap.size W W':=by
  obtain⟨nn,k,hr0,hn,i1,i2,hb,he⟩:=Zv (hval 0 _ v0 rfl rfl) h0;obtain⟨op,rfl,ho⟩:=open_int (hval 1 _ v1 rfl rfl) h1;obtain⟨e,hr2,j1,j2,j3,j4,j5,j6,_⟩:=zbK (hval 2 _ v2 rfl rfl) h2;obtain⟨p,q,_,_,hr⟩:=FH hL;exact Oz (cargs:=[_,_,_]) hr (.cons hr0 (.cons (.val rfl) (.cons hr2 .nil))) (zcj (zcX p q).env nn k op e hb he ⟨j1,j2,j3,j4,j5,j6⟩)
 refine hcall.mono fun ev W' ⟨hev,hB⟩ => ?_;subst hev
 have hagain := Af TA hB (ts := [28,3,42]) (by
  have h:([28,3,42].all fun t=>decide (t<Tryz.prog.types.size))=true:=by kernel_rfl
  intro t ht
  simpa using List.all_eq_true.1 h t ht) hA2
 refine⟨_,rfl,_,_,_,[],(p0++p1++p2),[],hW',?_,?_,?_,hB.frame _,fun h=>by cases h⟩
 ·exact trodAll_mk1 (shut_bool Tryz.underlying4 true)
 ·exact hagain
 ·rfl
set_option maxHeartbeats 8000000 in
theorem journalWrites_closed:joinedFacts Tryz.pinned.checked.prog 5 Tryz.f5 Rows.journalWritesSpec Rows.journalWritesRow=true:=by
 unfold joinedFacts;simp only[Bool.and_eq_true]
 and_intros
 all_goals as_aux_lemma=>kernel_rfl
theorem journalWrites_named:Tryz.pinned.checked.prog.funcNamed Rows.journalWritesRow.func=some 5:=by kernel_rfl
theorem journalWrites_origin:Tryz.f5.isInstance Tryz.pinned.checked.prog Rows.journalWritesRow.origin Rows.journalWritesRow.targs:=of_decide_eq_true (by kernel_rfl)
theorem journalWrites_unwrapped:Tryz.f5.isWrapper Tryz.pinned.checked.prog Rows.journalWritesRow.wrapper Rows.journalWritesRow.mainSum:=by
 unfold Func.isWrapper;first|(rw[if_pos (by decide +kernel)];kernel_rfl)|(rw[if_neg (by decide +kernel)];exact⟨rfl,rfl⟩)
theorem journalWrites_holds:Rows.JournalWritesSaid:=
 OpenClaim.holds_of_wide 5 Tryz.f5 rfl rfl rfl rfl rfl rfl rfl ⟨rfl,rfl,rfl,rfl,rfl⟩ rfl rfl rfl rfl rfl journalWrites_named Tryz.func5 journalWrites_closed journalWrites_origin journalWrites_unwrapped
  (fun os started H enc _=>journalWrites_lifted os started H enc)
theorem journalWrites_wf:Rows.journalWritesRow.wfByText (OpenSpec.ofChange Rows.journalWritesSpec)=true:=by kernel_rfl
theorem journalWrites_goes:false=Rows.journalWritesRow.goesBy Tryz.pinned.checked.prog:=by kernel_rfl
theorem journalWrites_noStand:([28,3,42].all fun u => !Tryz.prog.wantsStandIn u)=true:=by kernel_rfl
theorem journalWrites_card_holds:Rows.JournalWritesCardSaid:=
 Claim7.holds_tied_plain_at .later [] [.data, .data, .data, .handle, .sentinel, .sentinel, .data, .data] true (true, "bb766fb570bec7cb2739f021d878634c7761997539a2e05ecd9a98ea531ab34b") true
  journalWrites_holds (fun _ h=>by cases h) journalWrites_wf (fun _ h=>by cases h) journalWrites_row_tie rfl ⟨rfl,rfl⟩ zg1 rfl
  (fun f fn hf hfn => by
   obtain rfl:f=5:=fZ (journalWrites_named.symm.trans hf) |>.symm
   obtain rfl:fn=Tryz.f5:=(fZ (Tryz.func5.symm.trans hfn)).symm
   exact ⟨zcb,fun j t ht => by
    rw[Tryz.params5]at ht;have hm:t∈[28,3,42]:=by simpa using Array.mem_of_getElem? ht
    have hall:=journalWrites_noStand
    exact(show Tryz.prog.wantsStandIn t=false by simpa using List.all_eq_true.1 hall t hm)⟩)
  journalWrites_goes
end Go.Proofs.YtmglaebjmaomnaaGreatDoor
