/- The closure that lang.Check puts off: it takes a stop back. -/
import Derived.Test.YtimfbnojmdnlnaaKM10
import Derived.Test.YtimfbnojmdnlnaaProg
import Derived.Tactics
import Derived.Tactics2
import Derived.TacticsInMore
import Derived.KernelRfl
set_option linter.all false
namespace Go.Proofs.Ytimfbnojmdnlnaa
namespace AM
theorem u20:Try.prog.underlying 20=some (.interface #[]):=by kernel_rfl
theorem u86:Try.prog.underlying 86=some (.struct #[]):=by kernel_rfl
theorem i86:(Try.prog.info? 86).map (fun i=>(i.size,i.zero.map (·.cells.size)))=some (0,some 0):=by kernel_rfl
theorem s28:(Try.prog.info? 28).map (·.size)=some 1:=by kernel_rfl
theorem eqIn_nil (d:Nat) (w:World):(Op.equalIn (d+1) 20 .nilIface .nilIface).run Try.prog w=.ok true w:=by
 simp only [Op.equalIn,Sem.run_bind,run_underlying u20,Result.andThen_ok,Sem.run_pure]
theorem eqIn_some (d t:Nat) (v:Value) (w:World):(Op.equalIn (d+1) 20 (.iface t v) .nilIface).run Try.prog w=.ok false w:=by
 simp only [Op.equalIn,Sem.run_bind,run_underlying u20,Result.andThen_ok,Sem.run_pure]
theorem eq_nil (w:World):(Op.equal 20 .nilIface .nilIface).run Try.prog w=.ok true w:=eqIn_nil 9999 w
theorem eq_some (t:Nat) (v:Value) (w:World):(Op.equal 20 (.iface t v) .nilIface).run Try.prog w=.ok false w:=eqIn_some 9999 t v w
theorem guard29_ret (w:World) (x:Value):CallsDIn Fence.wide 0 Try.prog 29 #[x] .returning w fun e u' w'=>(∃ v,e=.returned v)∧Go.settle u'=.returning∧w'=w:=by
 refine callsDIn_of_wpSIn Try.func29 rfl trivial fun c₀ cs hu=>?_
 apply wpSIn_seq
 apply wpSIn_region
 simp [wpOpsSIn,go_sem,recoverD,hu,Exit.thenS,Fence.wide]
 refine wpSIn_of_wpIn rfl (wpIn_block (wpIn_seq (wpIn_region ?_)))
 have hl:∀ n,List.range (n+1)=List.range n++[n]:=fun n=>List.range_succ
 simp [wpOpsIn,Oper.wpIn,Oper.uponIn,execOp,Oper.semAt_none,Act.eval,Act.put,eqGuard,binOp,eq_nil,eq_some,Exit.then,Region.wanted]
 refine wpIn_cond_true (by simp [Act.eval]) (wpIn_region ?_)
 simp [wpOpsIn,Oper.wpIn,Oper.uponIn,execOp,Oper.semAt_none,Act.eval,Act.put,Region.wanted,Exit.inBlock]
 cases c₀
 simp_all [bodyPostS,Go.results,Go.settle]
theorem guard29_pan (w:World) (blk t0:Nat) (old:Value) (ex:List Value) (hh:w.heap[blk]?=some (.cells ⟨old::ex⟩ t0 (0,0))):CallsDIn Fence.wide 0 Try.prog 29 #[.pointer (some ⟨blk,0,none⟩)] (.panicking [{ v:=.iface 86 (.agg #[]),recovered:=false }]) w fun e u' w' =>
  (∃ v,e=.returned v)∧Go.settle u'=.returning∧Guarded w w' blk t0 ex:=by
 obtain ⟨i86,h86,hsz,z,hz,hzs⟩:∃ i,Try.prog.info? 86=some i∧i.size=0∧∃ z,i.zero=some z∧z.cells.size=0:=by
  have h:=i86
  cases hi:Try.prog.info? 86 with
  | none=>simp [hi] at h
  | some i =>
   simp only [hi,Option.map_some,Option.some.injEq,Prod.mk.injEq] at h
   obtain ⟨z,hz,hs⟩:=Option.map_eq_some_iff.1 h.2
   exact ⟨i,rfl,h.1,z,hz,hs⟩
 obtain ⟨i28,h28,hs28⟩:∃ i,Try.prog.info? 28=some i∧i.size=1:=by
  have h:=s28
  obtain ⟨i,hi,hs⟩:=Option.map_eq_some_iff.1 h
  exact ⟨i,hi,hs⟩
 have hzc:z.cells=#[]:=Array.eq_empty_of_size_eq_zero hzs
 have hlt:=(Array.getElem?_eq_some_iff.1 hh).1
 refine callsDIn_of_wpSIn Try.func29 rfl trivial fun c₀ cs hu=>?_
 apply wpSIn_seq
 apply wpSIn_region
 simp [wpOpsSIn,go_sem,recoverD,hu,Exit.thenS,Fence.wide]
 refine wpSIn_of_wpIn rfl (wpIn_block (wpIn_seq (wpIn_region ?_)))
 simp [wpOpsIn,Oper.wpIn,Oper.uponIn,execOp,Oper.semAt_none,Act.eval,Act.put,eqGuard,binOp,eq_nil,eq_some,Exit.then,Region.wanted]
 refine wpIn_cond_false (by simp [Act.eval]) (wpIn_seq (wpIn_region ?_))
 have hl3:List.range 3=[0,1,2]:=rfl
 simp [hl3,wpOpsIn,Oper.wpIn,Oper.uponIn,execOp,Oper.semAt_none,Act.eval,Act.put,Instr.typeAssert,Instr.extract,run_underlying u86,Exit.then,Region.wanted]
 refine wpIn_cond_true (by simp [Act.eval]) (wpIn_seq (wpIn_region ?_))
 have hl2:List.range 2=[0,1]:=rfl
 have hagg:(Value.agg #[]).cells=#[]:=rfl
 have hint:(Value.int .i64 1).cells=#[.int .i64 1]:=rfl
 simp [hl2,wpOpsIn,Oper.wpIn,Oper.uponIn,execOp,Oper.semAt_none,Act.eval,Act.put,Exit.then,Region.wanted,Instr.alloc,zeroValue,typeInfo,sizeOf,h86,hz,hsz,hzc,newVar,newRow,Instr.storeAt,Instr.sureAddr,storeVar,hagg,storeCells]
 refine wpIn_region ?_
 have hcell:(w.alloc (.cells #[] 86)).heap[blk]?=some (.cells ⟨old::ex⟩ t0 (0,0)):=by rw [heap_alloc_old _ _ _ hlt]; exact hh
 have hst:=run_storeCells_at Try.prog blk 0 t0 [.int .i64 1] 0 ⟨old::ex⟩ (w.alloc (.cells #[] 86)) hcell (by simp) (by simp [Value.oneCell'])
 simp only [Nat.add_zero,List.length_singleton] at hst
 have hl1:List.range 1=[0]:=rfl
 have hset:((List.take 0 (old::ex)++[Value.int IntKind.i64 1]++List.drop (0+1) (old::ex)).toArray)=⟨.int .i64 1::ex⟩:=rfl
 rw [hset] at hst
 have hgd:Guarded w ((w.alloc (.cells #[] 86)).setRow blk ⟨.int .i64 1::ex⟩) blk t0 ex:=⟨rfl,rfl,rfl,by simp,setRow_heap _ _ _ _ _ _ hcell,fun k hk hkb=>by rw [setRow_other _ _ _ _ hkb,heap_alloc_old _ _ _ hk]⟩
 simp [hl1,wpOpsIn,Oper.wpIn,Oper.uponIn,execOp,Oper.semAt_none,Act.eval,Act.put,Exit.inBlock,Region.wanted,Instr.storeAt,Instr.sureAddr,storeVar,sizeOf,typeInfo,h28,hs28,hint,hst]
 refine ⟨rfl,_,rfl, .tuple #[],?_,⟨⟨_,rfl⟩,by simp [Go.settle],hgd⟩⟩
 simp [Go.results,Try.f29]
theorem guard29:GuardFn Try.prog 29 86:={
 enters := ⟨Try.f29,Try.func29,by show ("headland/lang.Check$1" : String) ≠ _; decide,rfl⟩
 ret:=guard29_ret
 pan:=guard29_pan }
end AM
end Go.Proofs.Ytimfbnojmdnlnaa
