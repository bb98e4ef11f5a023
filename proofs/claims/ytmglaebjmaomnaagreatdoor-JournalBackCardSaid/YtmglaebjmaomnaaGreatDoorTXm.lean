/- What was written is read, cut anywhere: the row, and its tied card. Condition: what the row says of the listed variables. -/
import Derived.Test.YtmglaebjmaomnaaGreatDoorTSi
open Option.some renaming inj→fH
set_option linter.unusedVariables false
set_option maxRecDepth 100000
namespace Go.Proofs.YtmglaebjmaomnaaGreatDoor
open Go.ChangeShapes Go.WideShapes Go.ChangeAt Go.RowKit Go.Av.Fn Go.ChangeMaps Go.Av
theorem journalBack_lifted(os:Os)(started:os.Started)(H:Type)(enc:TypeId×Value→H) :
  ReturnsInHanded {} Tryz.checked os 6 .any (fun w args=>(Rows.journalBackSpec.pre enc Tryz.prog Tryz.f6 [] false w args∧laidMetH Tryz.prog AP w)∧sizedMet enc Tryz.prog Tryz.f6 (OpenSpec.ofChange Rows.journalBackSpec) false w args)
   (Rows.journalBackSpec.post enc Tryz.prog Tryz.f6 false true false false):=by
 refine returnsInHanded_of_change_and (C:=Tryz.checked) (X:=fun w _=>laidMetH Tryz.prog AP w) (fun _ _ _ hh h=>h.of_heap hh) own started (by kernel_rfl) Tryz.func6
  (ChangeSpec.witness_shaped (enc:=enc) (C:=Tryz.checked) (os:=os) (X:=fun w _=>laidMetH Tryz.prog AP w) false (World.doorLaid Tryz.prog 4000 os) #[.slice none 0 0,.int .i64 0] 8 rfl (World.shaped_of_RefB (by kernel_rfl) (by kernel_rfl)) (by kernel_rfl) (by kernel_rfl) (by kernel_rfl) (door_met os _)) ?_
 intro W base args ds gs before hval0 hW x1 x2 hL x3;have hval:∀ (j:Nat) t v,Tryz.f6.params[j]? = some t→args[j]? = some v→Value.okWide Tryz.prog W .any base t v:=hval0;have hW':=hW;obtain⟨p,q,hA0,hV,rfl,hfz,hnd⟩:=hW;have hA:DataW.TrodAll enc Tryz.prog W 0 (fun _=>true) true Tryz.f6.params.toList args.toList ds p:=hA0;rw[Tryz.params6]at hA hval x2;have hA2:=hA;obtain⟨v0,v1,d0,d1,p0,p1,rfl,rfl,rfl,h0,h1⟩:=trodAll_two hA;obtain⟨rfl,rfl⟩:=trodVars_none hV
 have hcall:Calls Tryz.prog 6 #[v0,v1] W fun e W'=>e = .returned (.bool true)∧Below W.heap.size W W':=by
  obtain⟨nn,l,hr0,hi⟩:=ZK (hval 0 _ v0 rfl rfl) h0;obtain⟨n,rfl,hn⟩:=open_int (hval 1 _ v1 rfl rfl) h1;obtain⟨p,q,_,_,hr⟩:=zS hL;exact Gm (cargs:=[_,_]) hr (.cons hr0 (.cons (.val rfl) .nil)) (zcv (Xc p q).env nn l hi n)
 refine hcall.mono fun ev W' ⟨hev,hB⟩ => ?_;subst hev
 have hagain := wP MH hB (ts := [53,3]) (by
  have h:([53,3].all fun t=>decide (t<Tryz.prog.types.size))=true:=by kernel_rfl
  intro t ht
  simpa using List.all_eq_true.1 h t ht) hA2
 refine⟨_,rfl,_,_,_,[],(p0++p1),[],hW',?_,?_,?_,hB.frame _,fun h=>by cases h⟩
 ·exact trodAll_mk1 (shut_bool Tryz.underlying4 true)
 ·exact hagain
 ·rfl
set_option maxHeartbeats 8000000 in
theorem journalBack_closed:joinedFacts Tryz.pinned.checked.prog 6 Tryz.f6 Rows.journalBackSpec Rows.journalBackRow=true:=by
 unfold joinedFacts;simp only[Bool.and_eq_true]
 and_intros
 all_goals as_aux_lemma=>kernel_rfl
theorem journalBack_named:Tryz.pinned.checked.prog.funcNamed Rows.journalBackRow.func=some 6:=by kernel_rfl
theorem journalBack_origin:Tryz.f6.isInstance Tryz.pinned.checked.prog Rows.journalBackRow.origin Rows.journalBackRow.targs:=of_decide_eq_true (by kernel_rfl)
theorem journalBack_unwrapped:Tryz.f6.isWrapper Tryz.pinned.checked.prog Rows.journalBackRow.wrapper Rows.journalBackRow.mainSum:=by
 unfold Func.isWrapper;first|(rw[if_pos (by decide +kernel)];kernel_rfl)|(rw[if_neg (by decide +kernel)];exact⟨rfl,rfl⟩)
theorem journalBack_holds:Rows.JournalBackSaid:=
 OpenClaim.holds_of_wide 6 Tryz.f6 rfl rfl rfl rfl rfl rfl rfl ⟨rfl,rfl,rfl,rfl,rfl⟩ rfl rfl rfl rfl rfl journalBack_named Tryz.func6 journalBack_closed journalBack_origin journalBack_unwrapped
  (fun os started H enc _=>journalBack_lifted os started H enc)
theorem journalBack_wf:Rows.journalBackRow.wfByText (OpenSpec.ofChange Rows.journalBackSpec)=true:=by kernel_rfl
theorem journalBack_goes:false=Rows.journalBackRow.goesBy Tryz.pinned.checked.prog:=by kernel_rfl
theorem journalBack_noStand:([53,3].all fun u => !Tryz.prog.wantsStandIn u)=true:=by kernel_rfl
theorem journalBack_card_holds:Rows.JournalBackCardSaid:=
 Claim7.holds_tied_plain_at .later [] [.data, .data, .data, .handle, .sentinel, .sentinel, .data, .data] true (true, "bb766fb570bec7cb2739f021d878634c7761997539a2e05ecd9a98ea531ab34b") true
  journalBack_holds (fun _ h=>by cases h) journalBack_wf (fun _ h=>by cases h) journalBack_row_tie rfl ⟨rfl,rfl⟩ zck rfl
  (fun f fn hf hfn => by
   obtain rfl:f=6:=fH (journalBack_named.symm.trans hf) |>.symm
   obtain rfl:fn=Tryz.f6:=(fH (Tryz.func6.symm.trans hfn)).symm
   exact ⟨WA,fun j t ht => by
    rw[Tryz.params6]at ht;have hm:t∈[53,3]:=by simpa using Array.mem_of_getElem? ht
    have hall:=journalBack_noStand
    exact(show Tryz.prog.wantsStandIn t=false by simpa using List.all_eq_true.1 hall t hm)⟩)
  journalBack_goes
end Go.Proofs.YtmglaebjmaomnaaGreatDoor
