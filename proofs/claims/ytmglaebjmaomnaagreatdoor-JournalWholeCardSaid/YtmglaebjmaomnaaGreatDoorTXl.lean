/- A record of all that is kept stands for the records ahead of it: the row, and its tied card. Condition: what the row says of the listed variables. -/
import Derived.Test.YtmglaebjmaomnaaGreatDoorTSi
open Option.some renaming inj→fH
set_option linter.unusedVariables false
set_option maxRecDepth 100000
namespace Go.Proofs.YtmglaebjmaomnaaGreatDoor
open Go.ChangeShapes Go.WideShapes Go.ChangeAt Go.RowKit Go.Av.Fn Go.ChangeMaps Go.Av
theorem journalWhole_lifted(os:Os)(started:os.Started)(H:Type)(enc:TypeId×Value→H) :
  ReturnsInHanded {} Tryz.checked os 7 .any (fun w args=>(Rows.journalWholeSpec.pre enc Tryz.prog Tryz.f7 [] false w args∧laidMetH Tryz.prog AP w)∧sizedMet enc Tryz.prog Tryz.f7 (OpenSpec.ofChange Rows.journalWholeSpec) false w args)
   (Rows.journalWholeSpec.post enc Tryz.prog Tryz.f7 false true false false):=by
 refine returnsInHanded_of_change_and (C:=Tryz.checked) (X:=fun w _=>laidMetH Tryz.prog AP w) (fun _ _ _ hh h=>h.of_heap hh) own started (by kernel_rfl) Tryz.func7
  (ChangeSpec.witness_shaped (enc:=enc) (C:=Tryz.checked) (os:=os) (X:=fun w _=>laidMetH Tryz.prog AP w) false (World.doorLaid Tryz.prog 4000 os) #[.agg #[.int .i64 0,.int .i64 0,.int .i64 0,.string ⟨#[]⟩,.slice none 0 0],.slice none 0 0] 8 rfl (World.shaped_of_RefB (by kernel_rfl) (by kernel_rfl)) (by kernel_rfl) (by kernel_rfl) (by kernel_rfl) (door_met os _)) ?_
 intro W base args ds gs before hval0 hW x1 x2 hL x3;have hval:∀ (j:Nat) t v,Tryz.f7.params[j]? = some t→args[j]? = some v→Value.okWide Tryz.prog W .any base t v:=hval0;have hW':=hW;obtain⟨p,q,hA0,hV,rfl,hfz,hnd⟩:=hW;have hA:DataW.TrodAll enc Tryz.prog W 0 (fun _=>true) true Tryz.f7.params.toList args.toList ds p:=hA0;rw[Tryz.params7]at hA hval x2;have hA2:=hA;obtain⟨v0,v1,d0,d1,p0,p1,rfl,rfl,rfl,h0,h1⟩:=trodAll_two hA;obtain⟨rfl,rfl⟩:=trodVars_none hV
 have hcall:Calls Tryz.prog 7 #[v0,v1] W fun e W'=>e = .returned (.bool true)∧Below W.heap.size W W':=by
  obtain⟨nn,k,hr0,hn,i1,i2,hb,he⟩:=ZJ (hval 0 _ v0 rfl rfl) h0;obtain⟨l,hl,hd⟩:=open_bytes Tryz.underlying22 Tryz.underlying5 (by kernel_rfl) (hval 1 _ v1 rfl rfl) h1;obtain⟨p,q,_,_,hr⟩:=zS hL;exact Gm (cargs:=[_,_]) hr (.cons hr0 (.cons hl .nil)) (zcu (Xc p q).env nn k l hb he)
 refine hcall.mono fun ev W' ⟨hev,hB⟩ => ?_;subst hev
 have hagain := wP MH hB (ts := [28,22]) (by
  have h:([28,22].all fun t=>decide (t<Tryz.prog.types.size))=true:=by kernel_rfl
  intro t ht
  simpa using List.all_eq_true.1 h t ht) hA2
 refine⟨_,rfl,_,_,_,[],(p0++p1),[],hW',?_,?_,?_,hB.frame _,fun h=>by cases h⟩
 ·exact trodAll_mk1 (shut_bool Tryz.underlying4 true)
 ·exact hagain
 ·rfl
set_option maxHeartbeats 8000000 in
theorem journalWhole_closed:joinedFacts Tryz.pinned.checked.prog 7 Tryz.f7 Rows.journalWholeSpec Rows.journalWholeRow=true:=by
 unfold joinedFacts;simp only[Bool.and_eq_true]
 and_intros
 all_goals as_aux_lemma=>kernel_rfl
theorem journalWhole_named:Tryz.pinned.checked.prog.funcNamed Rows.journalWholeRow.func=some 7:=by kernel_rfl
theorem journalWhole_origin:Tryz.f7.isInstance Tryz.pinned.checked.prog Rows.journalWholeRow.origin Rows.journalWholeRow.targs:=of_decide_eq_true (by kernel_rfl)
theorem journalWhole_unwrapped:Tryz.f7.isWrapper Tryz.pinned.checked.prog Rows.journalWholeRow.wrapper Rows.journalWholeRow.mainSum:=by
 unfold Func.isWrapper;first|(rw[if_pos (by decide +kernel)];kernel_rfl)|(rw[if_neg (by decide +kernel)];exact⟨rfl,rfl⟩)
theorem journalWhole_holds:Rows.JournalWholeSaid:=
 OpenClaim.holds_of_wide 7 Tryz.f7 rfl rfl rfl rfl rfl rfl rfl ⟨rfl,rfl,rfl,rfl,rfl⟩ rfl rfl rfl rfl rfl journalWhole_named Tryz.func7 journalWhole_closed journalWhole_origin journalWhole_unwrapped
  (fun os started H enc _=>journalWhole_lifted os started H enc)
theorem journalWhole_wf:Rows.journalWholeRow.wfByText (OpenSpec.ofChange Rows.journalWholeSpec)=true:=by kernel_rfl
theorem journalWhole_goes:false=Rows.journalWholeRow.goesBy Tryz.pinned.checked.prog:=by kernel_rfl
theorem journalWhole_noStand:([28,22].all fun u => !Tryz.prog.wantsStandIn u)=true:=by kernel_rfl
theorem journalWhole_card_holds:Rows.JournalWholeCardSaid:=
 Claim7.holds_tied_plain_at .later [] [.data, .data, .data, .handle, .sentinel, .sentinel, .data, .data] true (true, "bb766fb570bec7cb2739f021d878634c7761997539a2e05ecd9a98ea531ab34b") true
  journalWhole_holds (fun _ h=>by cases h) journalWhole_wf (fun _ h=>by cases h) journalWhole_row_tie rfl ⟨rfl,rfl⟩ zck rfl
  (fun f fn hf hfn => by
   obtain rfl:f=7:=fH (journalWhole_named.symm.trans hf) |>.symm
   obtain rfl:fn=Tryz.f7:=(fH (Tryz.func7.symm.trans hfn)).symm
   exact ⟨WA,fun j t ht => by
    rw[Tryz.params7]at ht;have hm:t∈[28,22]:=by simpa using Array.mem_of_getElem? ht
    have hall:=journalWhole_noStand
    exact(show Tryz.prog.wantsStandIn t=false by simpa using List.all_eq_true.1 hall t hm)⟩)
  journalWhole_goes
end Go.Proofs.YtmglaebjmaomnaaGreatDoor
