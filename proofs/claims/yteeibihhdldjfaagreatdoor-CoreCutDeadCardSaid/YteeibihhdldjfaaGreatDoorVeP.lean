/- Part 16: The library's contract of sorting numbers, at this program:. No condition. And more. -/
import Derived.Test.YteeibihhdldjfaaGreatDoorVeO
import Derived.Shelf.Sort.Plain
set_option linter.unusedVariables false
set_option linter.unusedSimpArgs false
namespace Go.Ve.T
open Go.Proofs Go.Shelf
def aAV:Ren:={f:=fun x=>match x with | 125=>137 | 128=>165 | 129=>166 | 189=>107 | 215=>187 | 216=>162 | 257=>136 | 294=>156 | 295=>157 | 296=>158 | 297=>159 | 298=>160 | 299=>161 | 300=>163 | 301=>164 | 328=>182 | 329=>183 | 330=>184 | 331=>185 | 332=>186 | 343=>200 | n=>n,t:=fun x=>match x with | 46=>195 | 51=>211 | 53=>214 | 131=>98 | 182=>218 | 183=>219 | 218=>240 | 222=>244 | 228=>252 | 229=>253 | n=>n,g:=fun x=>match x with  | n=>n}
theorem aos:Lays.n189 Tryz.prog aAV:={mixed:=by kernel_rfl,f125:=Tryz.func137.trans (congrArg some (by kernel_rfl)),f128:=Tryz.func165.trans (congrArg some (by kernel_rfl)),f129:=Tryz.func166.trans (congrArg some (by kernel_rfl)),f189:=Tryz.func107.trans (congrArg some (by kernel_rfl)),f215:=Tryz.func187.trans (congrArg some (by kernel_rfl)),f216:=Tryz.func162.trans (congrArg some (by kernel_rfl)),f257:=Tryz.func136.trans (congrArg some (by kernel_rfl)),f294:=Tryz.func156.trans (congrArg some (by kernel_rfl)),f295:=Tryz.func157.trans (congrArg some (by kernel_rfl)),f296:=Tryz.func158.trans (congrArg some (by kernel_rfl)),f297:=Tryz.func159.trans (congrArg some (by kernel_rfl)),f298:=Tryz.func160.trans (congrArg some (by kernel_rfl)),f299:=Tryz.func161.trans (congrArg some (by kernel_rfl)),f300:=Tryz.func163.trans (congrArg some (by kernel_rfl)),f301:=Tryz.func164.trans (congrArg some (by kernel_rfl)),f328:=Tryz.func182.trans (congrArg some (by kernel_rfl)),f329:=Tryz.func183.trans (congrArg some (by kernel_rfl)),f330:=Tryz.func184.trans (congrArg some (by kernel_rfl)),f331:=Tryz.func185.trans (congrArg some (by kernel_rfl)),f332:=Tryz.func186.trans (congrArg some (by kernel_rfl)),f343:=Tryz.func200.trans (congrArg some (by kernel_rfl)),t0:=Tryz.underlying0,a0:=Tryz.isAgg0,z0:=Tryz.sizeOf0,v0:=Tryz.zeroValue0,t3:=Tryz.underlying3,a3:=Tryz.isAgg3,z3:=Tryz.sizeOf3,v3:=Tryz.zeroValue3,t4:=Tryz.underlying4,a4:=Tryz.isAgg4,z4:=Tryz.sizeOf4,v4:=Tryz.zeroValue4,t5:=Tryz.underlying5,a5:=Tryz.isAgg5,z5:=Tryz.sizeOf5,v5:=Tryz.zeroValue5,t9:=Tryz.underlying9,a9:=Tryz.isAgg9,z9:=Tryz.sizeOf9,v9:=Tryz.zeroValue9,t28:=Tryz.underlying28,a28:=Tryz.isAgg28,z28:=Tryz.sizeOf28,v28:=Tryz.zeroValue28,t46:=Tryz.underlying195,a46:=Tryz.isAgg195,z46:=Tryz.sizeOf195,v46:=Tryz.zeroValue195,t51:=Tryz.underlying211,a51:=Tryz.isAgg211,z51:=Tryz.sizeOf211,v51:=Tryz.zeroValue211,t53:=Tryz.underlying214,a53:=Tryz.isAgg214,z53:=Tryz.sizeOf214,v53:=Tryz.zeroValue214,t131:=Tryz.underlying98,a131:=Tryz.isAgg98,z131:=Tryz.sizeOf98,v131:=Tryz.zeroValue98,t182:=Tryz.underlying218,a182:=Tryz.isAgg218,z182:=Tryz.sizeOf218,v182:=Tryz.zeroValue218,t183:=Tryz.underlying219,a183:=Tryz.isAgg219,z183:=Tryz.sizeOf219,v183:=Tryz.zeroValue219,t218:=Tryz.underlying240,a218:=Tryz.isAgg240,z218:=Tryz.sizeOf240,v218:=Tryz.zeroValue240,t222:=Tryz.underlying244,a222:=Tryz.isAgg244,z222:=Tryz.sizeOf244,v222:=Tryz.zeroValue244,t228:=Tryz.underlying252,a228:=Tryz.isAgg252,z228:=Tryz.sizeOf252,v228:=Tryz.zeroValue252,t229:=Tryz.underlying253,a229:=Tryz.isAgg253,z229:=Tryz.sizeOf253,v229:=Tryz.zeroValue253}
end Go.Ve.T
namespace Go.Ve
open Go.RowKit Go.Sort
noncomputable section
open Classical
abbrev jH (l:ZZD):ZZD:=l.mergeSort fun x y=>decide (x≤y)
theorem ass (off:Nat)(d:ZZD)(c:Array Z)(k:Nat):(putCells (Value.int .i64) off d.toArray c)[k]? =(c[k]?).map fun x=>if off≤k∧k<off+d.length then Value.int .i64 (d.toArray)[k-off]! else x:=by
 simp [putCells]
section
variable {P:Program}{w0:World}{f:FuncId}{h:AH}{Q:CR→AH→Prop}
theorem aIg (kq:Can P f)(hS:∀p cap w,Calls P f #[.slice p 0 cap] w fun e w'=>e= .returned (.tuple #[])∧w'=w)(K:Q (.ret (.tuple ⟨[]⟩)) h):WF P w0 f [bJ] h Q:=by
 refine⟨kq,fun φ args' w hl H=>?_⟩;obtain⟨L,hL⟩:∃L,args'.toList=L:=⟨_,rfl⟩;rw [hL]at hl;cases hl with
 | cons _ v1 _ l1 h1 h2=>
  cases h2;obtain⟨_,_,rfl⟩:=h1.yj;obtain rfl:args'= #[.slice none 0 0]:=za8 hL;refine Calls.mono (hS none 0 w) fun E w' hE=>?_;obtain⟨rfl,rfl⟩:=hE;exact⟨_,h,φ,zac K,Ext.refl _ _,zad _,H,_,rfl,.ko _ _ .nil⟩
theorem aIh (kq:Can P f)(hS:∀(cS off cap:Nat) (zs:ZZD) (w:World),Holds (Value.int .i64) w cS off zs.toArray→cS<w.heap.size→zs.length<4611686018427387904→
 Calls P f #[.slice (some ⟨cS,off,none⟩) zs.length cap] w fun e w'=>e= .returned (.tuple #[])∧∃n os,w'=grow (putRow (Value.int .i64) (Sort.ahead w n) cS off (jH zs).toArray) os)
 {b o cap lo hi:Nat}{ty:TypeId}{c:NT Z}{zs:ZZD}(hz:zs≠[]) (hlen:zs.length≤1048576) (hg:h.ob.get b=some (.cells lo hi ty true c)) (xh:lo≤o) (hhi:o+zs.length≤hi) (hr:h.bH b o (zs.map vi))
 (K:Q (.ret (.tuple ⟨[]⟩)) (h.wr b o ((jH zs).map vi))):WF P w0 f [gD b o zs.length cap] h Q:=by
 refine⟨kq,fun φ args' w hl H=>?_⟩;obtain⟨L,hL⟩:∃L,args'.toList=L:=⟨_,rfl⟩;rw [hL]at hl;have uW:0<zs.length:=List.length_pos_iff.2 hz;cases hl with
 | cons _ v1 _ l1 h1 h2=>
  cases h2;obtain⟨a',c',rfl,hs,lO⟩:=h1.vD
  have eU:AtR φ ⟨b,o,none⟩ a':=by
   rcases lO with⟨_,_,_,h4⟩ | ⟨_,_,_,_,h4⟩
   · exact h4 (by omega)
   · exact(h4 (by omega)).1
  obtain⟨bk,d,arr,fr,p1,p2,p3,p4,p5,p6,p7,p8,p9⟩:=H.at hs eU hg;obtain rfl:=p9 rfl;have p3:a'.off+d=o:=p3;have ha':a'=⟨bk,a'.off,none⟩:=by cases a';simp_all
  obtain rfl:args'= #[.slice (some ⟨bk,a'.off,none⟩) zs.length c']:=by apply za8;rw [hL,←ha']
  have uX:∀j,j<zs.length→w.cell? ⟨bk,a'.off+j,none⟩=some (.int .i64 zs[j]!):=fun j hj=>by
   have vS:c.get (o+j)=some (vi zs[j]!):=by
    have:=hr j (vi zs[j]!) (by rw [zaJ,zab hj];simp [zab hj,getElem!_pos zs j hj]);unfold AH.rd at this;rw [hg]at this;simp only at this;split at this
    · exact this
    · cases this
   obtain⟨v',q1,q2⟩:=H.cell hs eU hg (j:=j) (show lo≤o+j by omega) (show o+j<hi by omega) vS;rw [si a' p4,p2]at q1;rw [q1,q2.lj]
  have hH:Holds (Value.int .i64) w bk a'.off zs.toArray:=fun j hj=>by
   have hj:j<zs.length:=by simpa using hj
   refine⟨?_,by simp [World.frozen?,p5]⟩;rw [uX j hj];simp [getElem!_pos zs j hj,hj]
  refine Calls.mono (hS bk a'.off c' zs w hH (Array.getElem?_eq_some_iff.1 p5).1 (by omega)) fun E w' hE=>?_;obtain⟨rfl,n,os,rfl⟩:=hE;have ahp:(jH zs).Perm zs:=List.mergeSort_perm zs _;have Fs:(jH zs).length=zs.length:=ahp.length_eq
  have hHR:HR P w0 φ (h.wr b o ((jH zs).map vi)) (putRow (Value.int .i64) (Sort.ahead w n) bk a'.off (jH zs).toArray):=by
   have hwr:h.wr b o ((jH zs).map vi)=⟨h.nx,h.ob.set b (some (.cells lo hi ty true (nR c o ((jH zs).map vi))))⟩:=by unfold AH.wr;rw [hg]
   have hm:(putRow (Value.int .i64) (Sort.ahead w n) bk a'.off (jH zs).toArray).heap=w.heap.modify bk (onCells (putCells (Value.int .i64) a'.off (jH zs).toArray)):=rfl;refine H.nK (o:=.cells lo hi ty true (nR c o ((jH zs).map vi))) (o':=.cells (putCells (Value.int .i64) a'.off (jH zs).toArray arr) ty (0,0)) p1 (by rw [hwr];exact NT.ai4 _ _ _) (by rw [hwr]) ?_ (p8 rfl) ?_ (fun k hk=>?_) ?_ rfl rfl rfl
   · refine .cells _ _ _ _ _ _ _ _ _ (fun _=>rfl) p6 (by simp [putCells]) fun p q1 q2=>?_;obtain⟨v,v',m1,m2,m3⟩:=p7 p q1 q2;have cy:=(Array.getElem?_eq_some_iff.1 m2).1;rw [FD,List.length_map,Fs]
     by_cases sR:o≤p∧p<o+zs.length
     · rw [if_pos sR];have jK:p-o<(jH zs).length:=by omega
       refine⟨vi (jH zs)[p-o],vi (jH zs)[p-o],by rw [zaJ,zab jK];rfl,?_,.int _ _⟩;rw [ass,m2,Option.map_some,if_pos (by omega),show p-d-a'.off=p-o by omega];simp [getElem!_pos (jH zs) (p-o) jK,jK]
     · rw [if_neg sR];refine⟨v,v',m1,?_,m3⟩;rw [ass,m2,Option.map_some,if_neg (by omega)]
   · rw [hm,zbA];simp [p5,onCells]
   · rw [hm,zbA,if_neg (fun e=>hk e.symm)]
   · rw [hm,Array.size_modify]
  refine⟨_,_,φ,zac K,Ext.refl _ _,by rw [AH.rl];exact zad _,hHR.behind ⟨rfl,rfl,rfl,?_,fun k hk=>?_⟩,_,rfl,.ko _ _ .nil⟩
  · simp [grow]
  · show(_++os)[k]? =_;rw [Array.getElem?_append_left hk]
end
theorem aIj {xs l}(hl:iQ l)(p:xs.Perm l):jH xs=l:=by
 have h1:(jH xs).Perm l:=(List.mergeSort_perm xs _).trans p;have h2:(jH xs).Pairwise (fun a b=>decide (a≤b)=true):=List.pairwise_mergeSort (by intro a b c;simp;omega) (by intro a b;simp;omega) xs
 have h3:iQ (jH xs):=by
  have nd:(jH xs).Nodup:=h1.nodup_iff.2 hl.nd;unfold iQ;refine(h2.and nd).imp fun h=>?_;have:=h.1;simp at this;have:=h.2;omega
 exact iQ.ext h3 hl fun x=>h1.mem_iff
end
end Go.Ve
