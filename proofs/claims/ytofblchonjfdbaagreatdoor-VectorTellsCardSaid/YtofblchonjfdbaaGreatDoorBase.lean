import Derived.Test.YtofblchonjfdbaaGreatDoorEnv
import Derived.Test.YtofblchonjfdbaaGreatDoorEvC
import Derived.Test.YtofblchonjfdbaaGreatDoorAs
import Derived.Below
namespace Go.Proofs.YtofblchonjfdbaaGreatDoor
open Go.RowKit Go.Extern.Stop Go.Stop Go.Extern
noncomputable abbrev wAs(b o:Nat)(w:World):World:=((((w.alloc (.cells #[.pointer (some ⟨b,o,none⟩)] 204)).alloc (.cells #[.pointer (some ⟨w.heap.size,0,none⟩)] 208)).alloc (.cells #[.pointer (some ⟨2,208,none⟩),.pointer (some ⟨w.heap.size+1,0,none⟩),.int .u64 150] 213)).alloc (.cells #[.pointer (some ⟨2,208,none⟩),.pointer (some ⟨w.heap.size+1,0,none⟩),.int .u64 150] 213)).alloc (.cells #[.pointer (some ⟨b,o,none⟩)] 204)
theorem QGZ(b o:Nat){w:World}{a:Addr}(h:a.block<w.heap.size):(wAs b o w).cell? a=w.cell? a:=by
 rw[World.cell?_alloc_lt _ _ a (by simp; omega),World.cell?_alloc_lt _ _ a (by simp; omega),World.cell?_alloc_lt _ _ a (by simp; omega),World.cell?_alloc_lt _ _ a (by simp; omega),World.cell?_alloc_lt _ _ a h]
theorem QET(b o:Nat)(w:World):Below w.heap.size w (wAs b o w):=
 (((((Below.refl _ w).alloc (Nat.le_refl _) _).alloc (by simp) _).alloc (by simp; omega) _).alloc (by simp; omega) _).alloc (by simp; omega) _
set_option maxHeartbeats 4000000 in
theorem QEU(w:World):Calls Tryz.prog 182 #[.nilIface] w fun e w'=>e = .returned (.int .i64 0)∧w'=w.alloc (.cells #[.pointer none] 204):=by
 go_enter Tryz.func182,Tryz.ntmps182
 go_wp2_with (go_at_call 186; refine (QN1 _ _).mono ?_; rintro e w' ⟨rfl,rfl⟩)
 go_ret
 exact ⟨rfl,rfl⟩
set_option maxHeartbeats 4000000 in
theorem QEV(b o:Nat)(c:Int)(w:World)(hg:w.cell? ⟨1,0,none⟩=some (.iface 223 (.agg #[.pointer (some ⟨2,199,none⟩)])))(hc:w.cell? ⟨b,o,none⟩=some (.int .i64 c)):
  Calls Tryz.prog 182 #[.iface 204 (.pointer (some ⟨b,o,none⟩))] w fun e w'=>e = .returned (.int .i64 c)∧w'=wAs b o w:=by
 have hlt:1<w.heap.size:=by
  rcases Nat.lt_or_ge 1 w.heap.size with h|h
  ·exact h
  ·simp[World.cell?,Array.getElem?_eq_none h]at hg
 have hbl:b<w.heap.size:=by
  rcases Nat.lt_or_ge b w.heap.size with h|h
  ·exact h
  ·simp[World.cell?,Array.getElem?_eq_none h]at hc
 have hgA:(w.alloc (.cells #[.pointer none] 204)).cell? ⟨1,0,none⟩=some (.iface 223 (.agg #[.pointer (some ⟨2,199,none⟩)])):=by
  rw[World.cell?_alloc_lt _ _ ⟨1,0,none⟩ hlt]; exact hg
 have htA:(w.alloc (.cells #[.pointer none] 204)).cell? ⟨w.heap.size,0,none⟩=some (.pointer none):=by simp
 have hfA:(w.alloc (.cells #[.pointer none] 204)).frozen? ⟨w.heap.size,0,none⟩=false:=by simp
 have hcW:=(QGZ b o (a:=⟨b,o,none⟩) hbl).trans hc
 go_enter Tryz.func182,Tryz.ntmps182
 go_wp2_with (go_at_call 186; refine (QN2 ⟨b,o,none⟩ _ (.pointer none) _ hgA htA hfA).mono ?_; rintro e w' ⟨rfl,rfl⟩)
 go_ret
 exact ⟨rfl,rfl⟩
open Go Go.Ev
noncomputable def Qt3:Ev.Qj:=fun args _ K=>match args with
 | [.nilif]=>K (.int .i64 0)
 | [.iface t (.fptr (.any [.int k c]))]=>(match t.beq 204,k with|true,.i64=>K (.int .i64 c)|_,_=>none)
 | _=>none
noncomputable def QLj:List (Nat×Ev.Qj):=[(182,Qt3)]
noncomputable def B0:FuncId→Option Ev.Qj:=lkN QLj
theorem QvI:Q7w Qt3:=by
 intro args R S K J
 unfold Qt3
 repeat' split
 all_goals rfl
theorem QD4{f:FuncId}{sp:Ev.Qj}(h:B0 f=some sp):f=182∧sp=Qt3:=by
 unfold B0 QLj at h
 simp only[lkN]at h
 split at h
 ·rename_i hb
  cases h
  exact ⟨(Nat.eq_of_beq_eq_true hb).symm,rfl⟩
 ·cases h
theorem QH0:QF3 B0:=fun f sp h=>by
 obtain ⟨_,rfl⟩:=QD4 h
 exact QvI
theorem QD5(keep:FuncId→Nat→Option (List Nat))(vs:FuncId→Bool):∀ f sp,B0 f=some sp→Q3u Tryz.prog (env keep vs) f sp:=fun f sp h=>by
 obtain ⟨rfl,rfl⟩:=QD4 h
 obtain ⟨c0,hc0⟩:∃ c,Tryz.f182.body=some c:=Option.isSome_iff_exists.1 (by kernel_rfl)
 refine ⟨QvI,fun Wr w args us z hX hG ha hz=>⟨⟨_,c0,Tryz.func182,by kernel_rfl,hc0⟩,?_⟩⟩
 unfold Qt3 at hz
 split at hz
 ·cases hz
  obtain ⟨u,r,rfl,hu,hr⟩:=ha
  have hr:r=[]:=hr
  have hu:u = .nilIface:=hu
  subst hr; subst hu
  refine (QEU w).mono ?_
  rintro e w1 ⟨rfl,rfl⟩
  exact ⟨_,rfl,(Below.refl _ w).alloc (Nat.le_refl _) _,rfl⟩
 ·split at hz
  ·rename_i t k c hb
   cases hz
   obtain rfl:=Nat.eq_of_beq_eq_true hb
   obtain ⟨u,r,rfl,⟨q,rfl,a,us',rfl,hs,hB,hw,hc⟩,hr⟩:=ha
   have hr:r=[]:=hr
   subst hr
   obtain ⟨u1,r1,rfl,hu1,hr1⟩:=hB
   have hr1:r1=[]:=hr1
   have hu1:u1 = .int .i64 _:=hu1
   subst hr1; subst hu1
   have hc0:=hc 0 _ rfl
   obtain ⟨b,o,sp⟩:=a
   have hs:sp=none:=hs
   subst hs
   obtain ⟨_,_,usg,hg1,hg2⟩:=hG 1 _ (show (env keep vs).G 1=some (.any [.raw etV]) by kernel_rfl)
   obtain ⟨ug,rg,rfl,hug,_⟩:=hg1
   have hug:ug=etV:=hug
   subst hug
   have hg0:=hg2 0 _ rfl
   refine (QEV b o _ w hg0 hc0).mono ?_
   rintro e w1 ⟨rfl,rfl⟩
   exact ⟨_,rfl,QET b o w,rfl⟩
  ·cases hz
 ·cases hz
end Go.Proofs.YtofblchonjfdbaaGreatDoor
