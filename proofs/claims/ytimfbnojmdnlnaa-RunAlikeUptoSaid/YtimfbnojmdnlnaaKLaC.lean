/- The closure that run.executed puts off: it takes a stop back and writes both results. -/
import Derived.Test.YtimfbnojmdnlnaaKAmGe
import Derived.Test.YtimfbnojmdnlnaaKLaA
import Derived.OrdersIn
set_option linter.all false
namespace Go.Proofs.Ytimfbnojmdnlnaa
namespace AM
theorem uEnd:∃ fs,Try.prog.underlying 170=some (.struct fs):=by
 have h:(Try.prog.underlying 170).map (fun d=>match d with | .struct _=>true | _=>false)=some true:=by kernel_rfl
 cases hu:Try.prog.underlying 170 with
 | none=>rw [hu] at h; cases h
 | some d=>rw [hu] at h; cases d<;>simp at h; exact ⟨_,rfl⟩
theorem fEnd:(Try.prog.underlying 170).map (fun d=>match d with | .struct fs=>(fs[0]?).map fun f=>(f.offset,Try.prog.cellsOf f.type,f.type) | _=>none)=some (some (0,1,28)):=by kernel_rfl
theorem szErr:szOf Try.prog 28=some 1:=by kernel_rfl
theorem agErr:aggOf Try.prog 28=some false:=by kernel_rfl
theorem szInt:szOf Try.prog 3=some 1:=by kernel_rfl
theorem fieldE (b:Nat) (W:World):(Instr.fieldAt 170 (.pointer (some ⟨b,0,none⟩)) 0).run Try.prog W=.ok (.pointer (some ⟨b,0,none⟩)) W:=by
 obtain ⟨fs,hu⟩:=(show ∃ fs,Try.prog.underlying 170=some (.struct fs) by
  have h:(Try.prog.underlying 170).map (fun d=>match d with | .struct _=>true | _=>false)=some true:=by kernel_rfl
  cases hu:Try.prog.underlying 170 with
  | none=>rw [hu] at h; cases h
  | some d=>rw [hu] at h; cases d<;>simp at h; exact ⟨_,rfl⟩)
 have h:=fEnd
 rw [hu] at h
 simp only [Option.map_some,Option.some.injEq,Option.map_eq_some_iff,Prod.mk.injEq] at h
 obtain ⟨f,hf,h0,_,ht⟩:=h
 simp [Instr.fieldAt,run_underlying hu,hf,Instr.sureAddr,fieldPlace,ht,run_sizeOf szErr,h0,add_lit]
theorem loadE (b:Nat) (W:World) (x:Value) (h:W.cell? ⟨b,0,none⟩=some x):(Instr.loadAt 28 (.pointer (some ⟨b,0,none⟩))).run Try.prog W=.ok x W:=by
 simp [Instr.loadAt,Instr.sureAddr,loadVar,run_isAgg agErr,h]
theorem storeT {ty:Nat} (hs:szOf Try.prog ty=some 1) (b t0:Nat) (W:World) (old x:Value) (ex:List Value) (hx:x.cells=#[x]) (h1:x.oneCell'=true) (h:W.heap[b]?=some (.cells ⟨old::ex⟩ t0 (0,0))) :
  (Instr.storeAt ty (.pointer (some ⟨b,0,none⟩)) x).run Try.prog W=.ok () (W.setRow b ⟨x::ex⟩):=by
 have hst:=run_storeCells_at Try.prog b 0 t0 [x] 0 ⟨old::ex⟩ W h (by simp) (by simp [h1])
 simp only [Nat.add_zero,List.length_singleton] at hst
 have hset:((List.take 0 (old::ex)++[x]++List.drop (0+1) (old::ex)).toArray)=⟨x::ex⟩:=rfl
 rw [hset] at hst
 simp [Instr.storeAt,Instr.sureAddr,storeVar,run_sizeOf hs,hx,hst]
theorem iEnd:(Try.prog.info? 170).map (fun i=>(i.size,i.zero.map (·.cells)))=some (1,some #[.int .i64 0]):=by kernel_rfl
theorem guardE_ret (w:World) (x y:Value):CallsDIn Fence.wide 0 Try.prog 93 #[x,y] .returning w fun e u' w'=>(∃ v,e=.returned v)∧Go.settle u'=.returning∧w'=w:=by
 refine callsDIn_of_wpSIn Try.func93 rfl trivial fun c₀ cs hu=>?_
 apply wpSIn_seq
 apply wpSIn_region
 simp [wpOpsSIn,go_sem,recoverD,hu,Exit.thenS,Fence.wide]
 refine wpSIn_of_wpIn rfl (wpIn_block (wpIn_seq (wpIn_region ?_)))
 have hl:∀ n,List.range (n+1)=List.range n++[n]:=fun n=>List.range_succ
 simp [wpOpsIn,Oper.wpIn,Oper.uponIn,execOp,Oper.semAt_none,Act.eval,Act.put,eqGuard,binOp,eq_nil,eq_some,Exit.then,Region.wanted]
 refine wpIn_cond_true (by simp [Act.eval]) (wpIn_region ?_)
 simp [wpOpsIn,Oper.wpIn,Oper.uponIn,execOp,Oper.semAt_none,Act.eval,Act.put,Region.wanted,Exit.inBlock]
 cases c₀
 simp_all [bodyPostS,Go.results,Go.settle]
theorem guardE_pan (w:World) (blk blk2 t0 t2:Nat) (old old2:Value) (ex ex2:List Value) (e:Int) (hbb:blk≠blk2) (hh:w.heap[blk]?=some (.cells ⟨old::ex⟩ t0 (0,0))) (hh2:w.heap[blk2]?=some (.cells ⟨old2::ex2⟩ t2 (0,0))) :
  CallsDIn Fence.wide 0 Try.prog 93 #[.pointer (some ⟨blk,0,none⟩), .pointer (some ⟨blk2,0,none⟩)] (.panicking [{ v:=.iface 170 (.agg #[.int .i64 e]),recovered:=false }]) w fun e' u' w' =>
  (∃ v,e'=.returned v)∧Go.settle u'=.returning∧Guarded2 w w' blk blk2 t0 t2 ex ex2 e:=by
 obtain ⟨fs,ufs⟩:=uEnd
 obtain ⟨iE,hE,hsz,z,hz,hzs⟩:∃ i,Try.prog.info? 170=some i∧i.size=1∧∃ z,i.zero=some z∧z.cells=#[.int .i64 0]:=by
  have h:=iEnd
  cases hi:Try.prog.info? 170 with
  | none=>simp [hi] at h
  | some i =>
   simp only [hi,Option.map_some,Option.some.injEq,Prod.mk.injEq] at h
   obtain ⟨z,hz,hs⟩:=Option.map_eq_some_iff.1 h.2
   exact ⟨i,rfl,h.1,z,hz,hs⟩
 have hlt:=(Array.getElem?_eq_some_iff.1 hh).1
 have hlt2:=(Array.getElem?_eq_some_iff.1 hh2).1
 refine callsDIn_of_wpSIn Try.func93 rfl trivial fun c₀ cs hu=>?_
 apply wpSIn_seq
 apply wpSIn_region
 simp [wpOpsSIn,go_sem,recoverD,hu,Exit.thenS,Fence.wide]
 refine wpSIn_of_wpIn rfl (wpIn_block (wpIn_seq (wpIn_region ?_)))
 simp [wpOpsIn,Oper.wpIn,Oper.uponIn,execOp,Oper.semAt_none,Act.eval,Act.put,eqGuard,binOp,eq_nil,eq_some,Exit.then,Region.wanted]
 refine wpIn_cond_false (by simp [Act.eval]) (wpIn_seq (wpIn_region ?_))
 have hl3:List.range 3=[0,1,2]:=rfl
 simp [hl3,wpOpsIn,Oper.wpIn,Oper.uponIn,execOp,Oper.semAt_none,Act.eval,Act.put,Instr.typeAssert,Instr.extract,run_underlying ufs,Exit.then,Region.wanted]
 refine wpIn_cond_true (by simp [Act.eval]) (wpIn_seq (wpIn_region ?_))
 have hl2:List.range 2=[0,1]:=rfl
 have hagg:(Value.agg #[.int .i64 e]).cells=#[.int .i64 e]:=rfl
 have hcellN:(w.alloc (.cells #[.int .i64 0] 170)).heap[w.heap.size]?=some (.cells ⟨.int .i64 0::[]⟩ 170 (0,0)):=heap_alloc_new _ _
 have hstN:=run_storeCells_at Try.prog w.heap.size 0 170 [.int .i64 e] 0 ⟨.int .i64 0::[]⟩ (w.alloc (.cells #[.int .i64 0] 170)) hcellN (by simp) (by simp [Value.oneCell'])
 simp only [Nat.add_zero,List.length_singleton] at hstN
 have hsetN:((List.take 0 [Value.int IntKind.i64 0]++[Value.int IntKind.i64 e]++List.drop (0+1) [Value.int IntKind.i64 0]).toArray)=#[.int .i64 e]:=rfl
 rw [hsetN] at hstN
 simp [hl2,wpOpsIn,Oper.wpIn,Oper.uponIn,execOp,Oper.semAt_none,Act.eval,Act.put,Exit.then,Region.wanted,Instr.alloc,zeroValue,typeInfo,sizeOf,hE,hz,hsz,hzs,newVar,newRow,Instr.storeAt,Instr.sureAddr,storeVar,hagg,hstN]
 generalize hW:(w.alloc (.cells #[.int .i64 0] 170)).setRow w.heap.size #[.int .i64 e]=W
 have hne1:blk≠w.heap.size:=by omega
 have hne2:blk2≠w.heap.size:=by omega
 have hWn:W.drew.heap[w.heap.size]?=some (.cells #[.int .i64 e] 170 (0,0)):=by rw [← hW]; exact setRow_heap _ _ _ _ _ _ hcellN
 have hB0:W.drew.heap[blk]?=some (.cells ⟨old::ex⟩ t0 (0,0)):=by
  rw [← hW]
  show ((w.alloc (.cells #[.int .i64 0] 170)).setRow w.heap.size #[.int .i64 e]).heap[blk]?=_
  rw [setRow_other _ _ _ _ hne1,heap_alloc_old _ _ _ hlt]; exact hh
 have hB0':W.drew.heap[blk2]?=some (.cells ⟨old2::ex2⟩ t2 (0,0)):=by
  rw [← hW]
  show ((w.alloc (.cells #[.int .i64 0] 170)).setRow w.heap.size #[.int .i64 e]).heap[blk2]?=_
  rw [setRow_other _ _ _ _ hne2,heap_alloc_old _ _ _ hlt2]; exact hh2
 have hold:∀ k,k < w.heap.size→W.drew.heap[k]?=w.heap[k]?:=fun k hk=>by
  rw [← hW]
  show ((w.alloc (.cells #[.int .i64 0] 170)).setRow w.heap.size #[.int .i64 e]).heap[k]?=_
  rw [setRow_other _ _ _ _ (by omega),heap_alloc_old _ _ _ hk]
 have hN0:W.drew.cell? ⟨w.heap.size,0,none⟩=some (.int .i64 e):=by simp [World.cell?,hWn]
 have hWn1:(W.drew.setRow blk ⟨.int .i64 0::ex⟩).heap[w.heap.size]?=some (.cells #[.int .i64 e] 170 (0,0)):=by rw [setRow_other _ _ _ _ (Ne.symm hne1)]; exact hWn
 have hN1:(W.drew.setRow blk ⟨.int .i64 0::ex⟩).cell? ⟨w.heap.size,0,none⟩=some (.int .i64 e):=by simp [World.cell?,hWn1]
 have hB1:(W.drew.setRow blk ⟨.int .i64 0::ex⟩).heap[blk2]?=some (.cells ⟨old2::ex2⟩ t2 (0,0)):=by rw [setRow_other _ _ _ _ (Ne.symm hbb)]; exact hB0'
 have hb1:=setRow_heap _ _ _ ⟨.int .i64 0::ex⟩ _ _ hB0
 have hb2:=setRow_heap _ _ _ ⟨.int .i64 e::ex2⟩ _ _ hB1
 have hgd:Guarded2 w ((W.drew.setRow blk ⟨.int .i64 0::ex⟩).setRow blk2 ⟨.int .i64 e::ex2⟩) blk blk2 t0 t2 ex ex2 e :=
  ⟨by rw [← hW]; rfl,by rw [← hW]; rfl,by rw [← hW]; rfl,by rw [← hW]; simp [World.drew],by rw [setRow_other _ _ _ _ hbb]; exact hb1,hb2,fun k hk h1 h2=>by rw [setRow_other _ _ _ _ h2,setRow_other _ _ _ _ h1]; exact hold k hk⟩
 refine wpIn_region_any (by kernel_rfl) (wpAnyIn_ready (rs:=[0,2]) (by kernel_rfl) (by simp) (AllReadyIn.cons rfl (fun K' hK'=>?_) (AllReadyIn.cons rfl (fun K' hK'=>?_) AllReadyIn.nil)))
 ·simp [Oper.wpIn,Oper.uponIn,execOp,Oper.semAt_none,Act.eval,Act.put,Region.wanted,fieldE]
  refine hK' _ _ (wpAnyIn_ready (rs:=[1,2]) (by kernel_rfl) (by simp) (AllReadyIn.cons rfl (fun K1 hK1=>?_) (AllReadyIn.cons rfl (fun K1 hK1=>?_) AllReadyIn.nil)))
  ·simp [Oper.wpIn,Oper.uponIn,execOp,Oper.semAt_none,Act.eval,Act.put,Region.wanted,fieldE,loadE _ _ _ hN0,loadE _ _ _ hN1,storeT szInt blk t0 _ old (.int .i64 0) ex rfl rfl hB0,storeT szErr blk2 t2 _ old2 (.int .i64 e) ex2 rfl rfl hB1]
   refine hK1 _ _ (wpAnyIn_ready (rs:=[2]) (by kernel_rfl) (by simp) (AllReadyIn.cons rfl (fun K2 hK2=>?_) AllReadyIn.nil))
   simp [Oper.wpIn,Oper.uponIn,execOp,Oper.semAt_none,Act.eval,Act.put,Region.wanted,fieldE,loadE _ _ _ hN0,loadE _ _ _ hN1,storeT szInt blk t0 _ old (.int .i64 0) ex rfl rfl hB0,storeT szErr blk2 t2 _ old2 (.int .i64 e) ex2 rfl rfl hB1]
   refine hK2 _ _ (wpAnyIn_ready (rs:=[3]) (by kernel_rfl) (by simp) (AllReadyIn.cons rfl (fun K3 hK3=>?_) AllReadyIn.nil))
   simp [Oper.wpIn,Oper.uponIn,execOp,Oper.semAt_none,Act.eval,Act.put,Region.wanted,fieldE,loadE _ _ _ hN0,loadE _ _ _ hN1,storeT szInt blk t0 _ old (.int .i64 0) ex rfl rfl hB0,storeT szErr blk2 t2 _ old2 (.int .i64 e) ex2 rfl rfl hB1]
   refine hK3 _ _ (wpAnyIn_done (by kernel_rfl) ?_ _)
   simp [Exit.inBlock]
   refine ⟨rfl,_,rfl, .tuple #[],?_,⟨⟨_,rfl⟩,by simp [Go.settle],hgd⟩⟩
   simp [Go.results,Try.f93]
  ·simp [Oper.wpIn,Oper.uponIn,execOp,Oper.semAt_none,Act.eval,Act.put,Region.wanted,fieldE,loadE _ _ _ hN0,loadE _ _ _ hN1,storeT szInt blk t0 _ old (.int .i64 0) ex rfl rfl hB0,storeT szErr blk2 t2 _ old2 (.int .i64 e) ex2 rfl rfl hB1]
   refine hK1 _ _ (wpAnyIn_ready (rs:=[1]) (by kernel_rfl) (by simp) (AllReadyIn.cons rfl (fun K2 hK2=>?_) AllReadyIn.nil))
   simp [Oper.wpIn,Oper.uponIn,execOp,Oper.semAt_none,Act.eval,Act.put,Region.wanted,fieldE,loadE _ _ _ hN0,loadE _ _ _ hN1,storeT szInt blk t0 _ old (.int .i64 0) ex rfl rfl hB0,storeT szErr blk2 t2 _ old2 (.int .i64 e) ex2 rfl rfl hB1]
   refine hK2 _ _ (wpAnyIn_ready (rs:=[3]) (by kernel_rfl) (by simp) (AllReadyIn.cons rfl (fun K3 hK3=>?_) AllReadyIn.nil))
   simp [Oper.wpIn,Oper.uponIn,execOp,Oper.semAt_none,Act.eval,Act.put,Region.wanted,fieldE,loadE _ _ _ hN0,loadE _ _ _ hN1,storeT szInt blk t0 _ old (.int .i64 0) ex rfl rfl hB0,storeT szErr blk2 t2 _ old2 (.int .i64 e) ex2 rfl rfl hB1]
   refine hK3 _ _ (wpAnyIn_done (by kernel_rfl) ?_ _)
   simp [Exit.inBlock]
   refine ⟨rfl,_,rfl, .tuple #[],?_,⟨⟨_,rfl⟩,by simp [Go.settle],hgd⟩⟩
   simp [Go.results,Try.f93]
 ·simp [Oper.wpIn,Oper.uponIn,execOp,Oper.semAt_none,Act.eval,Act.put,Region.wanted,fieldE,loadE _ _ _ hN0,loadE _ _ _ hN1,storeT szInt blk t0 _ old (.int .i64 0) ex rfl rfl hB0,storeT szErr blk2 t2 _ old2 (.int .i64 e) ex2 rfl rfl hB1]
  refine hK' _ _ (wpAnyIn_ready (rs:=[0]) (by kernel_rfl) (by simp) (AllReadyIn.cons rfl (fun K1 hK1=>?_) AllReadyIn.nil))
  simp [Oper.wpIn,Oper.uponIn,execOp,Oper.semAt_none,Act.eval,Act.put,Region.wanted,fieldE,loadE _ _ _ hN0,loadE _ _ _ hN1,storeT szInt blk t0 _ old (.int .i64 0) ex rfl rfl hB0,storeT szErr blk2 t2 _ old2 (.int .i64 e) ex2 rfl rfl hB1]
  refine hK1 _ _ (wpAnyIn_ready (rs:=[1]) (by kernel_rfl) (by simp) (AllReadyIn.cons rfl (fun K2 hK2=>?_) AllReadyIn.nil))
  simp [Oper.wpIn,Oper.uponIn,execOp,Oper.semAt_none,Act.eval,Act.put,Region.wanted,fieldE,loadE _ _ _ hN0,loadE _ _ _ hN1,storeT szInt blk t0 _ old (.int .i64 0) ex rfl rfl hB0,storeT szErr blk2 t2 _ old2 (.int .i64 e) ex2 rfl rfl hB1]
  refine hK2 _ _ (wpAnyIn_ready (rs:=[3]) (by kernel_rfl) (by simp) (AllReadyIn.cons rfl (fun K3 hK3=>?_) AllReadyIn.nil))
  simp [Oper.wpIn,Oper.uponIn,execOp,Oper.semAt_none,Act.eval,Act.put,Region.wanted,fieldE,loadE _ _ _ hN0,loadE _ _ _ hN1,storeT szInt blk t0 _ old (.int .i64 0) ex rfl rfl hB0,storeT szErr blk2 t2 _ old2 (.int .i64 e) ex2 rfl rfl hB1]
  refine hK3 _ _ (wpAnyIn_done (by kernel_rfl) ?_ _)
  simp [Exit.inBlock]
  refine ⟨rfl,_,rfl, .tuple #[],?_,⟨⟨_,rfl⟩,by simp [Go.settle],hgd⟩⟩
  simp [Go.results,Try.f93]
theorem guardE:GuardFn2 Try.prog 93 170:={
 enters := ⟨Try.f93,Try.func93,by show ("headland/run.executed$2" : String) ≠ _; decide,rfl⟩
 ret:=guardE_ret
 pan:=guardE_pan }
end AM
end Go.Proofs.Ytimfbnojmdnlnaa
