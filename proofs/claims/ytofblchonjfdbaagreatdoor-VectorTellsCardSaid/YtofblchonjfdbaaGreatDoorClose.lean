import Derived.Test.YtofblchonjfdbaaGreatDoorFn
import Derived.Test.YtofblchonjfdbaaGreatDoorRows
import Derived.Test.YtofblchonjfdbaaGreatDoorTie
import Derived.Test.YtofblchonjfdbaaGreatDoorCards
import Derived.Test.YtofblchonjfdbaaGreatDoorEvC
import Derived.ChangeSame
import Derived.JoinedOf
import Derived.LaidLaws
import Derived.Lib.LaidTab
import Derived.SevenTiedAt
import Derived.ChangeVars
import Derived.RowKitTokens
import Derived.LaidHandle
import Derived.Stop.Joined
namespace Go.Proofs.YtofblchonjfdbaaGreatDoor
open Go Go.Ev Go.RowKit
set_option maxRecDepth 100000
theorem own:ownKnob Tryz.prog.godebug=none:=by kernel_rfl
theorem Qyz:laidOutB Tryz.prog=true:=by kernel_rfl
theorem QD2{P:Program}{ts:Array TypeId}(h:ts.toList.all (fun t=>!P.wantsStandIn t)=true)(j:Nat)(t:TypeId)(ht:ts[j]?=some t):P.wantsStandIn t=false:=by
 have hm:t∈ts.toList:=by
  rw[←Array.getElem?_toList]at ht
  exact List.mem_of_getElem? ht
 simpa using List.all_eq_true.1 h t hm
abbrev QNO:List (String×DataW Unit):=[("math/bits.deBruijn64tab",Rows.laid_math_bits_deBruijn64tab),("errors.errorType",Rows.laid_errors_errorType)]
abbrev QuW(W:World):Prop:=laidMetH Tryz.prog QNO W
theorem QQW:Tryz.prog.globalNamed "errors.errorType" = some 1:=by kernel_rfl
theorem QNP:(Tryz.prog.cutTypes.find? (·.1 == "internal/reflectlite.rtype")).map (·.2)=some 223:=by kernel_rfl
theorem QMm:((List.range 266).filter fun t=>Tryz.prog.rowNamed t [101,114,114,111,114])=[199]:=by kernel_rfl
theorem QJ7:Tryz.prog.types.size=266:=by kernel_rfl
theorem QsV{W:World}(h:QuW W):W.cell? ⟨1,0,none⟩=some etV:=by
 have h':laidMet Tryz.prog [("math/bits.deBruijn64tab",Rows.laid_math_bits_deBruijn64tab)] W∧handlesMet Tryz.prog [("errors.errorType",Rows.laid_errors_errorType)] W:=h
 obtain ⟨name,u,ty,e1,e2,e3,e4,e5⟩:=h'.2 _ (List.mem_singleton.2 rfl)
 have en:name=[101,114,114,111,114]:=(Option.some.inj e1).symm
 subst en
 obtain rfl:=Option.some.inj (QNP.symm.trans e2)
 have hm:ty∈(List.range 266).filter fun t=>Tryz.prog.rowNamed t [101,114,114,111,114]:=List.mem_filter.2 ⟨List.mem_range.2 (by rw[←QJ7]; exact e3),e4⟩
 rw[QMm]at hm
 obtain rfl:=List.mem_singleton.1 hm
 have hh:typeHandle Tryz.prog 199 = .pointer (some ⟨2,199,none⟩):=by kernel_rfl
 rw[hh]at e5
 simpa[etV]using World.var?_cell QQW e5 0
theorem QQX:(Tryz.prog.globals[0]?).map (·.type)=some 195:=by kernel_rfl
theorem QNQ:Tryz.prog.globalNamed "math/bits.deBruijn64tab" = some 0:=by kernel_rfl
theorem QQY{H:Type}: Rows.laid_math_bits_deBruijn64tab (H:=H)=Lib.tabData .u8 Qt4:=rfl
theorem QMn{W:World}(h:QuW W):Lib.TabIs Tryz.prog W "math/bits.deBruijn64tab" .u8 Qt4:=
 have h':laidMet Tryz.prog [("math/bits.deBruijn64tab",Rows.laid_math_bits_deBruijn64tab)] W∧handlesMet Tryz.prog [("errors.errorType",Rows.laid_errors_errorType)] W:=h
 Lib.tabIs_of_head QNQ QQX Tryz.underlying195 Tryz.underlying5 (by kernel_rfl) (by kernel_rfl) (QQY ▸ h'.1)
theorem QD3(keep:FuncId→Nat→Option (List Nat))(vs:FuncId→Bool){W:World}(h:QuW W):Qt8 (env keep vs) (fun _=>False) W:=by
 intro g c hg
 have hg:Gv g=some c:=hg
 unfold Gv at hg
 split at hg
 ·rename_i hb
  cases hg
  obtain rfl:=Nat.eq_of_beq_eq_true hb
  have hc:=QsV h
  refine ⟨QsL hc,fun h=>h,[etV],⟨etV,[],rfl,rfl,rfl⟩,?_⟩
  intro i u hi
  cases i with
  | zero=>cases hi; exact hc
  | succ i=>cases hi
 ·split at hg
  ·rename_i hb
   cases hg
   obtain rfl:=Nat.eq_of_beq_eq_true hb
   have hc:∀ i,i<64→W.cell? ⟨0,i,none⟩=some (.int .u8 (Qt4.getD i 0)):=fun i hi=>(QMn h).cell QNQ i hi
   refine ⟨QsL (hc 0 (by decide)),fun h=>h,_,rfl,?_⟩
   intro i u hi
   simp only[List.getElem?_map,Option.map_eq_some_iff]at hi
   obtain ⟨z,hz,rfl⟩:=hi
   have hl:i<64:=(List.getElem?_eq_some_iff.1 hz).1
   have:=hc i hl
   rw[List.getD_eq_getElem?_getD,hz]at this
   unfold Addr.add
   split
   ·rename_i h0; subst h0; exact this
   ·rw[show (0:Nat)+i=i by omega]; exact this
  ·cases hg
noncomputable def QqS(os:Os):World:=
 let w:=World.holding Tryz.prog os ⟨#[],#[],[]⟩
 let h1:=w.heap.modify 1 (fun
   | .cells _ t frozen=>.cells #[etV] t frozen
   | o=>o)
 let h1:=h1.modify 0 (fun
   | .cells _ t frozen=>.cells (Qt4.map (Value.int .u8)).toArray t frozen
   | o=>o)
 { w with heap:=h1 }
theorem Qov(os:Os)(args:Array Value):QuW ((QqS os).forCall (fun _ _=>0) ⟨#[],args,[]⟩).memory:=
 laidMetH_of_parts (laidMet_of_run' 3 (by kernel_rfl) (by kernel_rfl)) (by kernel_rfl)
end Go.Proofs.YtofblchonjfdbaaGreatDoor
