/- The reference's Value, sizes and asked. -/
import Derived.Test.YtimfbnojmdnlnaaKSeD
import Derived.Test.YtimfbnojmdnlnaaKSbMb
set_option linter.all false
set_option maxRecDepth 100000
namespace Go.Proofs.Ytimfbnojmdnlnaa
namespace AM
namespace Wp
def encRow (l:List Int):List V:=[.slice (nk l.isEmpty) (l.map encI)]
def rowsOf (ps:List Int) (ar:List Arr):List (List Int):=ar.map fun a=>sizesOf a ps
def eFlag (c:Bool):Int:=if c=true then 3 else 0
def rErr0 (ps:List Int) (ar:List Arr):Int:=eFlag (ar.any (tooBig ps))
def raskErr (p:Prg) (ps:List Int):Int :=
 if refPrg p=true then (if ps.length≠p.params.length then 2 else if ps.any (fun n=>decide (n < 0)||decide (1000 < n))=true then 6 else rcErr ps p.arrays) else 1
def raskIn (p:Prg) (ps:List Int):Bool:=refPrg p&&decide (ps.length=p.params.length)&&!ps.any (fun n=>decide (n < 0)||decide (1000 < n))
def rowsV (c:Bool) (l:List (List Int)):V:=if c=true then .slice (nk l.isEmpty) (l.map encRow) else .slice .nil []
def intsV (c:Bool) (l:List Int):V:=if c=true then .slice (nk l.isEmpty) (l.map encI) else .slice .nil []
theorem ask_in {p:Prg} {ps:List Int} (h:askErr p ps=0):chkPrg p=true∧ps.length=p.params.length∧raskIn p ps=true∧shErr ps p.arrays=0∧∀ n∈ps,0≤n∧n≤1000:=by
 unfold askErr at h
 split at h
 ·rename_i hc
  split at h
  ·cases h
  ·rename_i hl
   split at h
   ·cases h
   ·rename_i ha
    have hl':ps.length=p.params.length:=by omega
    refine ⟨hc,hl',?_,h,fun n hn=>?_⟩
    ·simp only [raskIn, ← prg_agree,hc,hl',decide_true,Bool.true_and]
     simpa using ha
    ·simp only [List.any_eq_true,not_exists,not_and] at ha
     have:=ha n hn
     simp only [Bool.or_eq_true,decide_eq_true_eq] at this
     omega
 ·cases h
end Wp
end AM
end Go.Proofs.Ytimfbnojmdnlnaa
