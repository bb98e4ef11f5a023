/- Of any bytes that is kept what the document says: the row, and its tied card. Condition: what the row says of the listed variables. -/
import Derived.Test.YtmglaebjmaomnaaGreatDoorTOd
open Option.some renaming inj→fZ
set_option linter.unusedVariables false
set_option maxRecDepth 100000
namespace Go.Proofs.YtmglaebjmaomnaaGreatDoor
open Go.ChangeShapes Go.WideShapes Go.ChangeAt Go.RowKit Go.Av.Fn Go.ChangeMaps Go.Av
theorem journalReads_lifted(os:Os)(started:os.Started)(H:Type)(enc:TypeId×Value→H) :
  ReturnsInHanded {} Tryz.checked os 3 .any (fun w args=>(Rows.journalReadsSpec.pre enc Tryz.prog Tryz.f3 [] false w args∧laidMetH Tryz.prog FO w)∧sizedMet enc Tryz.prog Tryz.f3 (OpenSpec.ofChange Rows.journalReadsSpec) false w args)
   (Rows.journalReadsSpec.post enc Tryz.prog Tryz.f3 false true false false):=by
 refine returnsInHanded_of_change_and (C:=Tryz.checked) (X:=fun w _=>laidMetH Tryz.prog FO w) (fun _ _ _ hh h=>h.of_heap hh) own started (by kernel_rfl) Tryz.func3
  (ChangeSpec.witness_shaped (enc:=enc) (C:=Tryz.checked) (os:=os) (X:=fun w _=>laidMetH Tryz.prog FO w) false (World.doorLaid Tryz.prog 4000 os) #[.slice none 0 0] 8 rfl (World.shaped_of_RefB (by kernel_rfl) (by kernel_rfl)) (by kernel_rfl) (by kernel_rfl) (by kernel_rfl) (door_met os _)) ?_
 intro W base args ds gs before hval0 hW x1 x2 hL x3;have hval:∀ (j:Nat) t v,Tryz.f3.params[j]? = some t→args[j]? = some v→Value.okWide Tryz.prog W .any base t v:=hval0;have hW':=hW;obtain⟨p,q,hA0,hV,rfl,hfz,hnd⟩:=hW;have hA:DataW.TrodAll enc Tryz.prog W 0 (fun _=>true) true Tryz.f3.params.toList args.toList ds p:=hA0;rw[Tryz.params3]at hA hval x2;have hA2:=hA;obtain⟨v0,d0,rfl,rfl,h0⟩:=trodAll_one hA;obtain⟨rfl,rfl⟩:=trodVars_none hV
 have hcall:Calls Tryz.prog 3 #[v0] W fun e W'=>e = .returned (.bool true)∧Below W.heap.size W W':=by
  obtain⟨l,hl,hd⟩:=open_bytes Tryz.underlying22 Tryz.underlying5 (by kernel_rfl) (hval 0 _ v0 rfl rfl) h0;obtain⟨p,q,_,_,hr⟩:=FH hL;exact Oz (cargs:=[_]) hr (.cons hl .nil) (zck (zcX p q).env l)
 refine hcall.mono fun ev W' ⟨hev,hB⟩ => ?_;subst hev
 have hagain := Af TA hB (ts := [22]) (by
  have h:([22].all fun t=>decide (t<Tryz.prog.types.size))=true:=by kernel_rfl
  intro t ht
  simpa using List.all_eq_true.1 h t ht) hA2
 refine⟨_,rfl,_,_,_,[],p,[],hW',?_,?_,?_,hB.frame _,fun h=>by cases h⟩
 ·exact trodAll_mk1 (shut_bool Tryz.underlying4 true)
 ·exact hagain
 ·rfl
set_option maxHeartbeats 8000000 in
theorem journalReads_closed:joinedFacts Tryz.pinned.checked.prog 3 Tryz.f3 Rows.journalReadsSpec Rows.journalReadsRow=true:=by
 unfold joinedFacts;simp only[Bool.and_eq_true]
 and_intros
 all_goals as_aux_lemma=>kernel_rfl
theorem journalReads_named:Tryz.pinned.checked.prog.funcNamed Rows.journalReadsRow.func=some 3:=by kernel_rfl
theorem journalReads_origin:Tryz.f3.isInstance Tryz.pinned.checked.prog Rows.journalReadsRow.origin Rows.journalReadsRow.targs:=of_decide_eq_true (by kernel_rfl)
theorem journalReads_unwrapped:Tryz.f3.isWrapper Tryz.pinned.checked.prog Rows.journalReadsRow.wrapper Rows.journalReadsRow.mainSum:=by
 unfold Func.isWrapper;first|(rw[if_pos (by decide +kernel)];kernel_rfl)|(rw[if_neg (by decide +kernel)];exact⟨rfl,rfl⟩)
theorem journalReads_holds:Rows.JournalReadsSaid:=
 OpenClaim.holds_of_wide 3 Tryz.f3 rfl rfl rfl rfl rfl rfl rfl ⟨rfl,rfl,rfl,rfl,rfl⟩ rfl rfl rfl rfl rfl journalReads_named Tryz.func3 journalReads_closed journalReads_origin journalReads_unwrapped
  (fun os started H enc _=>journalReads_lifted os started H enc)
theorem journalReads_wf:Rows.journalReadsRow.wfByText (OpenSpec.ofChange Rows.journalReadsSpec)=true:=by kernel_rfl
theorem journalReads_goes:false=Rows.journalReadsRow.goesBy Tryz.pinned.checked.prog:=by kernel_rfl
theorem journalReads_noStand:([22].all fun u => !Tryz.prog.wantsStandIn u)=true:=by kernel_rfl
theorem journalReads_card_holds:Rows.JournalReadsCardSaid:=
 Claim7.holds_tied_plain_at .later [] [.data, .data, .data, .handle, .sentinel, .sentinel, .data, .data] true (true, "bb766fb570bec7cb2739f021d878634c7761997539a2e05ecd9a98ea531ab34b") true
  journalReads_holds (fun _ h=>by cases h) journalReads_wf (fun _ h=>by cases h) journalReads_row_tie rfl ⟨rfl,rfl⟩ zg1 rfl
  (fun f fn hf hfn => by
   obtain rfl:f=3:=fZ (journalReads_named.symm.trans hf) |>.symm
   obtain rfl:fn=Tryz.f3:=(fZ (Tryz.func3.symm.trans hfn)).symm
   exact ⟨zcb,fun j t ht => by
    rw[Tryz.params3]at ht;have hm:t∈[22]:=by simpa using Array.mem_of_getElem? ht
    have hall:=journalReads_noStand
    exact(show Tryz.prog.wantsStandIn t=false by simpa using List.all_eq_true.1 hall t hm)⟩)
  journalReads_goes
end Go.Proofs.YtmglaebjmaomnaaGreatDoor
