/- Part 19: The closed run of the chapter's examples of layer 8, by the evaluator, in the kernel: 'head' returns true, and changes nothing of what was there, where the table of powers of ten is as the library lays it. No other condition. And what follows it. -/
import Derived.Test.YteeibihhdldjfaaGreatDoorVeR
import Derived.Lib.LaidTab
set_option linter.unusedVariables false
set_option linter.unusedSimpArgs false
namespace Go.Ve.T
open Go.Ve Go.Proofs Go.RowKit
noncomputable section
set_option maxRecDepth 100000
def gF (k:Nat):jD:=(ct PP k).getD ⟨0,[],.skip,false⟩
abbrev g (k:Nat):Option jD:=some (gF k)
theorem g1 {k:Nat}(h:(ct PP k).isSome=true):∀a,g k=some a→ct PP k=some a:=fun a e=>by
 cases e
 cases hc:ct PP k with
 | none=>rw [hc]at h;cases h
 | some x=>unfold gF;rw [hc];rfl
def MO:List Value:=FT.map fun r=>.tuple ⟨[.agg ⟨r⟩,.bool true]⟩
def anE (vs:List Value) (h:AH) (k:CR→AH→Bool):Bool:=a1 vs fun v=>lW v fun kd n=>iff (gK kd .i64) (Int.casesOn (motive:=fun _=>Bool) n (fun n=>iff (Nat.ble 1 n&&Nat.ble n 34)
 (ql MO n fun c=>k (.ret c) h)) ot)
def MP:List Value:=FT.flatten
def anF (vs:List Value) (h:AH) (k:CR→AH→Bool):Bool:=a0 vs (k (.ret (.agg ⟨MP⟩)) h)
def sums:uE:=[(84,anE),(120,anF),(67,ac0),(198,ac1),(109,ac2)]
def Vs:NT jD:=(.n (.n (.n (.n (.n (.n (.n (.n .e (g 127) .e) (g 63) (.n .e (g 191) .e)) (g 31) (.n (.n .e (g 159) .e) (g 95) .e)) (g 15) (.n (.n (.n .e (g 143) .e) (g 79) (.n .e (g 207) .e)) (g 47) (.n .e (g 111) .e))) (g 7) (.n (.n (.n (.n .e (g 135) .e) (g 71) (.n .e (g 199) .e)) (g 39) (.n .e (g 103) .e)) (g 23) (.n (.n (.n .e (g 151) .e) (g 87) (.n .e (g 215) .e)) (g 55) (.n (.n .e (g 183) .e) (g 119) .e)))) (g 3) (.n (.n (.n (.n (.n .e (g 131) .e) (g 67) .e) (g 35) (.n (.n .e (g 163) .e) (g 99) .e)) (g 19) (.n (.n (.n .e (g 147) .e) (g 83) (.n .e (g 211) .e)) (g 51) (.n (.n .e (g 179) .e) (g 115) .e))) (g 11) (.n (.n (.n (.n .e (g 139) .e) (g 75) .e) (g 43) (.n (.n .e (g 171) .e) (g 107) .e)) (g 27) (.n (.n (.n .e (g 155) .e) (g 91) .e) (g 59) (.n (.n .e (g 187) .e) (g 123) .e))))) none (.n (.n (.n (.n (.n (.n .e (g 129) .e) (g 65) (.n .e (g 193) .e)) (g 33) (.n (.n .e (g 161) .e) (g 97) .e)) (g 17) (.n (.n (.n .e (g 145) .e) (g 81) (.n .e (g 209) .e)) (g 49) (.n (.n .e (g 177) .e) (g 113) .e))) (g 9) (.n (.n (.n (.n .e (g 137) .e) (g 73) (.n .e (g 201) .e)) (g 41) (.n (.n .e (g 169) .e) (g 105) .e)) (g 25) (.n (.n (.n .e (g 153) .e) (g 89) (.n .e (g 217) .e)) (g 57) (.n (.n .e (g 185) .e) (g 121) .e)))) (g 5) (.n (.n (.n (.n (.n .e (g 133) .e) (g 69) (.n .e (g 197) .e)) (g 37) (.n (.n .e (g 165) .e) (g 101) .e)) (g 21) (.n (.n (.n .e (g 149) .e) (g 85) (.n .e (g 213) .e)) (g 53) (.n (.n .e (g 181) .e) (g 117) .e))) (g 13) (.n (.n (.n (.n .e (g 141) .e) (g 77) (.n .e (g 205) .e)) (g 45) (.n (.n .e (g 173) .e) (g 109) .e)) (g 29) (.n (.n (.n .e (g 157) .e) (g 93) .e) (g 61) (.n (.n .e (g 189) .e) (g 125) .e)))))) none (.n (.n (.n (.n (.n (.n (.n .e (g 128) .e) (g 64) (.n .e (g 192) .e)) (g 32) (.n (.n .e (g 160) .e) (g 96) .e)) (g 16) (.n (.n (.n .e (g 144) .e) (g 80) (.n .e (g 208) .e)) (g 48) (.n (.n .e (g 176) .e) (g 112) .e))) (g 8) (.n (.n (.n (.n .e (g 136) .e) (g 72) (.n .e (g 200) .e)) (g 40) (.n (.n .e (g 168) .e) (g 104) .e)) (g 24) (.n (.n (.n .e (g 152) .e) (g 88) (.n .e (g 216) .e)) (g 56) (.n (.n .e (g 184) .e) (g 120) .e)))) (g 4) (.n (.n (.n (.n (.n .e (g 132) .e) (g 68) (.n .e (g 196) .e)) (g 36) (.n (.n .e (g 164) .e) (g 100) .e)) (g 20) (.n (.n (.n .e (g 148) .e) (g 84) (.n .e (g 212) .e)) (g 52) (.n (.n .e (g 180) .e) (g 116) .e))) (g 12) (.n (.n (.n (.n .e (g 140) .e) (g 76) (.n .e (g 204) .e)) (g 44) (.n (.n .e (g 172) .e) (g 108) .e)) (g 28) (.n (.n (.n .e (g 156) .e) (g 92) .e) (g 60) (.n .e (g 124) .e))))) none (.n (.n (.n (.n (.n (.n .e (g 130) .e) (g 66) (.n .e (g 194) .e)) (g 34) (.n (.n .e (g 162) .e) (g 98) .e)) (g 18) (.n (.n (.n .e (g 146) .e) (g 82) (.n .e (g 210) .e)) (g 50) (.n (.n .e (g 178) .e) (g 114) .e))) (g 10) (.n (.n (.n (.n .e (g 138) .e) (g 74) (.n .e (g 202) .e)) (g 42) (.n (.n .e (g 170) .e) (g 106) .e)) (g 26) (.n (.n (.n .e (g 154) .e) (g 90) (.n .e (g 218) .e)) (g 58) (.n (.n .e (g 186) .e) (g 122) .e)))) (g 6) (.n (.n (.n (.n (.n .e (g 134) .e) (g 70) (.n .e (g 198) .e)) (g 38) (.n (.n .e (g 166) .e) (g 102) .e)) (g 22) (.n (.n (.n .e (g 150) .e) (g 86) (.n .e (g 214) .e)) (g 54) (.n (.n .e (g 182) .e) (g 118) .e))) (g 14) (.n (.n (.n (.n .e (g 142) .e) (g 78) (.n .e (g 206) .e)) (g 46) (.n (.n .e (g 174) .e) (g 110) .e)) (g 30) (.n (.n (.n .e (g 158) .e) (g 94) .e) (g 62) (.n (.n .e (g 190) .e) (g 126) .e)))))))
theorem anG:∀f af,Vs.get f=some af→ct PP f=some af:=NT.holds (Q:=fun f af=>ct PP f=some af) (t:=Vs) ⟨NT.no,⟨NT.no,⟨g1 (by kernel_rfl),⟨g1 (by kernel_rfl),⟨g1 (by kernel_rfl),⟨g1 (by kernel_rfl),⟨g1 (by kernel_rfl),⟨g1 (by kernel_rfl),trivial,trivial⟩,⟨g1 (by kernel_rfl),trivial,trivial⟩⟩,⟨g1 (by kernel_rfl),⟨g1 (by kernel_rfl),trivial,trivial⟩,trivial⟩⟩,⟨g1 (by kernel_rfl),⟨g1 (by kernel_rfl),⟨g1 (by kernel_rfl),trivial,trivial⟩,⟨g1 (by kernel_rfl),trivial,trivial⟩⟩,⟨g1 (by kernel_rfl),trivial,trivial⟩⟩⟩,⟨g1 (by kernel_rfl),⟨g1 (by kernel_rfl),⟨g1 (by kernel_rfl),⟨g1 (by kernel_rfl),trivial,trivial⟩,⟨g1 (by kernel_rfl),trivial,trivial⟩⟩,⟨g1 (by kernel_rfl),trivial,trivial⟩⟩,⟨g1 (by kernel_rfl),⟨g1 (by kernel_rfl),⟨g1 (by kernel_rfl),trivial,trivial⟩,⟨g1 (by kernel_rfl),trivial,trivial⟩⟩,⟨g1 (by kernel_rfl),⟨g1 (by kernel_rfl),trivial,trivial⟩,trivial⟩⟩⟩⟩,⟨g1 (by kernel_rfl),⟨g1 (by kernel_rfl),⟨g1 (by kernel_rfl),⟨g1 (by kernel_rfl),⟨g1 (by kernel_rfl),trivial,trivial⟩,trivial⟩,⟨g1 (by kernel_rfl),⟨g1 (by kernel_rfl),trivial,trivial⟩,trivial⟩⟩,⟨g1 (by kernel_rfl),⟨g1 (by kernel_rfl),⟨g1 (by kernel_rfl),trivial,trivial⟩,⟨g1 (by kernel_rfl),trivial,trivial⟩⟩,⟨g1 (by kernel_rfl),⟨g1 (by kernel_rfl),trivial,trivial⟩,trivial⟩⟩⟩,⟨g1 (by kernel_rfl),⟨g1 (by kernel_rfl),⟨g1 (by kernel_rfl),⟨g1 (by kernel_rfl),trivial,trivial⟩,trivial⟩,⟨g1 (by kernel_rfl),⟨g1 (by kernel_rfl),trivial,trivial⟩,trivial⟩⟩,⟨g1 (by kernel_rfl),⟨g1 (by kernel_rfl),⟨g1 (by kernel_rfl),trivial,trivial⟩,trivial⟩,⟨g1 (by kernel_rfl),⟨g1 (by kernel_rfl),trivial,trivial⟩,trivial⟩⟩⟩⟩⟩,⟨g1 (by kernel_rfl),⟨g1 (by kernel_rfl),⟨g1 (by kernel_rfl),⟨g1 (by kernel_rfl),⟨g1 (by kernel_rfl),⟨g1 (by kernel_rfl),trivial,trivial⟩,⟨g1 (by kernel_rfl),trivial,trivial⟩⟩,⟨g1 (by kernel_rfl),⟨g1 (by kernel_rfl),trivial,trivial⟩,trivial⟩⟩,⟨g1 (by kernel_rfl),⟨g1 (by kernel_rfl),⟨g1 (by kernel_rfl),trivial,trivial⟩,⟨g1 (by kernel_rfl),trivial,trivial⟩⟩,⟨g1 (by kernel_rfl),⟨g1 (by kernel_rfl),trivial,trivial⟩,trivial⟩⟩⟩,⟨g1 (by kernel_rfl),⟨g1 (by kernel_rfl),⟨g1 (by kernel_rfl),⟨g1 (by kernel_rfl),trivial,trivial⟩,⟨g1 (by kernel_rfl),trivial,trivial⟩⟩,⟨g1 (by kernel_rfl),⟨g1 (by kernel_rfl),trivial,trivial⟩,trivial⟩⟩,⟨g1 (by kernel_rfl),⟨g1 (by kernel_rfl),⟨g1 (by kernel_rfl),trivial,trivial⟩,⟨g1 (by kernel_rfl),trivial,trivial⟩⟩,⟨g1 (by kernel_rfl),⟨g1 (by kernel_rfl),trivial,trivial⟩,trivial⟩⟩⟩⟩,⟨g1 (by kernel_rfl),⟨g1 (by kernel_rfl),⟨g1 (by kernel_rfl),⟨g1 (by kernel_rfl),⟨g1 (by kernel_rfl),trivial,trivial⟩,⟨g1 (by kernel_rfl),trivial,trivial⟩⟩,⟨g1 (by kernel_rfl),⟨g1 (by kernel_rfl),trivial,trivial⟩,trivial⟩⟩,⟨g1 (by kernel_rfl),⟨g1 (by kernel_rfl),⟨g1 (by kernel_rfl),trivial,trivial⟩,⟨g1 (by kernel_rfl),trivial,trivial⟩⟩,⟨g1 (by kernel_rfl),⟨g1 (by kernel_rfl),trivial,trivial⟩,trivial⟩⟩⟩,⟨g1 (by kernel_rfl),⟨g1 (by kernel_rfl),⟨g1 (by kernel_rfl),⟨g1 (by kernel_rfl),trivial,trivial⟩,⟨g1 (by kernel_rfl),trivial,trivial⟩⟩,⟨g1 (by kernel_rfl),⟨g1 (by kernel_rfl),trivial,trivial⟩,trivial⟩⟩,⟨g1 (by kernel_rfl),⟨g1 (by kernel_rfl),⟨g1 (by kernel_rfl),trivial,trivial⟩,trivial⟩,⟨g1 (by kernel_rfl),⟨g1 (by kernel_rfl),trivial,trivial⟩,trivial⟩⟩⟩⟩⟩⟩,⟨NT.no,⟨g1 (by kernel_rfl),⟨g1 (by kernel_rfl),⟨g1 (by kernel_rfl),⟨g1 (by kernel_rfl),⟨g1 (by kernel_rfl),⟨g1 (by kernel_rfl),trivial,trivial⟩,⟨g1 (by kernel_rfl),trivial,trivial⟩⟩,⟨g1 (by kernel_rfl),⟨g1 (by kernel_rfl),trivial,trivial⟩,trivial⟩⟩,⟨g1 (by kernel_rfl),⟨g1 (by kernel_rfl),⟨g1 (by kernel_rfl),trivial,trivial⟩,⟨g1 (by kernel_rfl),trivial,trivial⟩⟩,⟨g1 (by kernel_rfl),⟨g1 (by kernel_rfl),trivial,trivial⟩,trivial⟩⟩⟩,⟨g1 (by kernel_rfl),⟨g1 (by kernel_rfl),⟨g1 (by kernel_rfl),⟨g1 (by kernel_rfl),trivial,trivial⟩,⟨g1 (by kernel_rfl),trivial,trivial⟩⟩,⟨g1 (by kernel_rfl),⟨g1 (by kernel_rfl),trivial,trivial⟩,trivial⟩⟩,⟨g1 (by kernel_rfl),⟨g1 (by kernel_rfl),⟨g1 (by kernel_rfl),trivial,trivial⟩,⟨g1 (by kernel_rfl),trivial,trivial⟩⟩,⟨g1 (by kernel_rfl),⟨g1 (by kernel_rfl),trivial,trivial⟩,trivial⟩⟩⟩⟩,⟨g1 (by kernel_rfl),⟨g1 (by kernel_rfl),⟨g1 (by kernel_rfl),⟨g1 (by kernel_rfl),⟨g1 (by kernel_rfl),trivial,trivial⟩,⟨g1 (by kernel_rfl),trivial,trivial⟩⟩,⟨g1 (by kernel_rfl),⟨g1 (by kernel_rfl),trivial,trivial⟩,trivial⟩⟩,⟨g1 (by kernel_rfl),⟨g1 (by kernel_rfl),⟨g1 (by kernel_rfl),trivial,trivial⟩,⟨g1 (by kernel_rfl),trivial,trivial⟩⟩,⟨g1 (by kernel_rfl),⟨g1 (by kernel_rfl),trivial,trivial⟩,trivial⟩⟩⟩,⟨g1 (by kernel_rfl),⟨g1 (by kernel_rfl),⟨g1 (by kernel_rfl),⟨g1 (by kernel_rfl),trivial,trivial⟩,⟨g1 (by kernel_rfl),trivial,trivial⟩⟩,⟨g1 (by kernel_rfl),⟨g1 (by kernel_rfl),trivial,trivial⟩,trivial⟩⟩,⟨g1 (by kernel_rfl),⟨g1 (by kernel_rfl),⟨g1 (by kernel_rfl),trivial,trivial⟩,trivial⟩,⟨g1 (by kernel_rfl),trivial,trivial⟩⟩⟩⟩⟩,⟨g1 (by kernel_rfl),⟨g1 (by kernel_rfl),⟨g1 (by kernel_rfl),⟨g1 (by kernel_rfl),⟨g1 (by kernel_rfl),⟨g1 (by kernel_rfl),trivial,trivial⟩,⟨g1 (by kernel_rfl),trivial,trivial⟩⟩,⟨g1 (by kernel_rfl),⟨g1 (by kernel_rfl),trivial,trivial⟩,trivial⟩⟩,⟨g1 (by kernel_rfl),⟨g1 (by kernel_rfl),⟨g1 (by kernel_rfl),trivial,trivial⟩,⟨g1 (by kernel_rfl),trivial,trivial⟩⟩,⟨g1 (by kernel_rfl),⟨g1 (by kernel_rfl),trivial,trivial⟩,trivial⟩⟩⟩,⟨g1 (by kernel_rfl),⟨g1 (by kernel_rfl),⟨g1 (by kernel_rfl),⟨g1 (by kernel_rfl),trivial,trivial⟩,⟨g1 (by kernel_rfl),trivial,trivial⟩⟩,⟨g1 (by kernel_rfl),⟨g1 (by kernel_rfl),trivial,trivial⟩,trivial⟩⟩,⟨g1 (by kernel_rfl),⟨g1 (by kernel_rfl),⟨g1 (by kernel_rfl),trivial,trivial⟩,⟨g1 (by kernel_rfl),trivial,trivial⟩⟩,⟨g1 (by kernel_rfl),⟨g1 (by kernel_rfl),trivial,trivial⟩,trivial⟩⟩⟩⟩,⟨g1 (by kernel_rfl),⟨g1 (by kernel_rfl),⟨g1 (by kernel_rfl),⟨g1 (by kernel_rfl),⟨g1 (by kernel_rfl),trivial,trivial⟩,⟨g1 (by kernel_rfl),trivial,trivial⟩⟩,⟨g1 (by kernel_rfl),⟨g1 (by kernel_rfl),trivial,trivial⟩,trivial⟩⟩,⟨g1 (by kernel_rfl),⟨g1 (by kernel_rfl),⟨g1 (by kernel_rfl),trivial,trivial⟩,⟨g1 (by kernel_rfl),trivial,trivial⟩⟩,⟨g1 (by kernel_rfl),⟨g1 (by kernel_rfl),trivial,trivial⟩,trivial⟩⟩⟩,⟨g1 (by kernel_rfl),⟨g1 (by kernel_rfl),⟨g1 (by kernel_rfl),⟨g1 (by kernel_rfl),trivial,trivial⟩,⟨g1 (by kernel_rfl),trivial,trivial⟩⟩,⟨g1 (by kernel_rfl),⟨g1 (by kernel_rfl),trivial,trivial⟩,trivial⟩⟩,⟨g1 (by kernel_rfl),⟨g1 (by kernel_rfl),⟨g1 (by kernel_rfl),trivial,trivial⟩,trivial⟩,⟨g1 (by kernel_rfl),⟨g1 (by kernel_rfl),trivial,trivial⟩,trivial⟩⟩⟩⟩⟩⟩⟩
set_option maxHeartbeats 0 in
theorem anH:ev Vs sums 1000000 (.call 12 [] ⟨0,.e⟩ fun r _=>match r with | .ret (.bool b)=>b | _=>false)=true:=by kernel_rfl
end
end Go.Ve.T
namespace Go.Ve.T
open Go.Ve Go.Proofs Go.RowKit
noncomputable section
set_option maxRecDepth 100000
theorem adZ {P:Program}{f:FuncId}{args:List Value}{args':Array Value}{c:Value}{w:World}(hl:LR (fun _=>none) args args'.toList) (hc:zx c c=true) (H:WF P w f args ⟨0,.e⟩ fun r _=>r= .ret c) :
 Calls P f args' w fun e w'=>e= .returned c∧Below w.heap.size w w':=by
 refine(H.2 (fun _=>none) args' w hl (HR.bare P w)).mono fun E w' hR=> ?_
 obtain⟨r,h',φ',h1,h2,h3,h4,h5⟩:=hR
 have hr:= @of_decide_eq_true _ (Classical.propDecidable _) h1
 subst hr
 obtain⟨v',rfl,hv⟩:=h5
 exact⟨by rw [(FJ hc φ').2 v' hv],h4.below⟩
theorem anI:MO.all (fun c=>zx c c)=true:=by kernel_rfl
theorem anJ:∀n:Nat,1≤n→n≤34→MO[n]? =some (.tuple ⟨[.agg ⟨ta n⟩,.bool (isOp n)]⟩):=fun n h1 h2=>by
 have hi:isOp n=true:=by unfold isOp;rw [decide_eq_true_eq];omega
 obtain⟨x,x1,x2,_,_⟩:=adX (i:=n) (by omega)
 have qj:ta (n:Int)=x:=by unfold ta;rw [hi,if_pos rfl];exact x2
 unfold MO
 rw [List.getElem?_map,x1,qj,hi];rfl
theorem ad0 {P:Program}{w0 w:World}{nm:String}{k:IntKind}{zs:List Int}(hb:Below w0.heap.size w0 w) (ht:Lib.TabIs P w0 nm k zs):Lib.TabIs P w nm k zs:=by
 unfold Lib.TabIs World.var? at ht ⊢
 cases hg:P.globalNamed nm with
 | none=>rw [hg]at ht;cases ht
 | some g =>
  rw [hg]at ht
  simp only [Option.bind_some]at ht ⊢
  cases ho:w0.heap[g]? with
  | none=>rw [ho]at ht;cases ht
  | some o=>rw [hb.block g (Array.getElem?_eq_some_iff.1 ho).1];exact ht
theorem CL {k:Nat}(h:(ct PP k).isSome=true):Can PP k:=by
 obtain⟨_,_,_,h,_⟩:=Sq (g1 h (gF k) rfl)
 exact h
theorem anK {w0 : World} (ht : Lib.TabIs PP w0 "internal/strconv.uint64pow10" .u64 Lib.pow10Tab) : KP PP w0 sums := by
 intro p hp
 simp only [sums,List.mem_cons,List.not_mem_nil,or_false]at hp
 rcases hp with rfl | rfl | rfl | rfl | rfl
 · refine FH (CL (by kernel_rfl)) fun args h k φ args' w e hl H=> ?_
   obtain⟨L,hL⟩:∃L,args'.toList=L:=⟨_,rfl⟩
   rw [hL]at hl
   obtain⟨v,rfl,e1⟩:=fy e
   obtain⟨kd,n,rfl,e2⟩:=og e1
   obtain⟨e3,e4⟩:=cI e2
   obtain rfl:=o5 e3
   cases n with
   | negSucc n=>cases e4
   | ofNat n =>
    obtain⟨e5,e6⟩:=cI (show iff (Nat.ble 1 n&&Nat.ble n 34) _=true from e4)
    rw [Bool.and_eq_true]at e5
    have n1:=Nat.le_of_ble_eq_true e5.1
    have n2:=Nat.le_of_ble_eq_true e5.2
    obtain⟨c,hc,e7⟩:=FL _ e6
    have hp:=List.all_eq_true.1 anI c (List.mem_of_getElem? hc)
    rw [anJ n n1 n2]at hc
    cases hc
    cases hl with
    | cons _ v' _ l' h1 h2 =>
     cases h2
     obtain rfl:=h1.iZ
     have lx:args'= #[.int .i64 (Int.ofNat n)]:=by apply Array.ext';rw [hL]
     subst lx
     exact⟨_,_,(FJ hp φ).1,e7,adZ (.cons _ _ _ _ (.int _ _) .nil) hp (adY (n:Int) fun h' _ _=>rfl)⟩
 · refine FH (CL (by kernel_rfl)) fun args h k φ args' w e hl H=> ?_
   have e1:args=[]∧k (.ret (.agg ⟨MP⟩)) h=true:=by
    cases args with
    | nil=>exact⟨rfl,e⟩
    | cons _ _=>cases e
   obtain⟨rfl,e1⟩:=e1
   have lx:args'= #[]:=by
    cases iM:args'.toList with
    | nil=>simpa using iM
    | cons _ _=>rw [iM]at hl;cases hl
   subst lx
   have hp:zx (.agg ⟨MP⟩) (.agg ⟨MP⟩)=true:=by kernel_rfl
   exact⟨_,_,(FJ hp φ).1,e1,adZ .nil hp (adV fun h' _ _=>rfl)⟩
 · exact amd (CL (by kernel_rfl)) fun n w h0 h1 hb=>(Any.strconv_Itoa anL n h0 h1 w (ad0 hb ht)).mono fun e w' ⟨he,k,os,hw⟩=>⟨he,hw▸Lib.below_grow _ w (Nat.le_refl _) k os⟩
 · exact ame (CL (by kernel_rfl)) fun s n w hl h=>(Any.strconv_Atoi anM s n hl h w).mono fun e w' ⟨he,t,hw⟩=>⟨he,hw▸Lib.bytesWorld_below w _ t⟩
 · exact amf (CL (by kernel_rfl)) fun bk o c xs sep w h1 h2 h3 h4 h5=>Any.strings_Join anN anO bk o c xs sep w h1 h2 h3 h4 h5
theorem anP {w0 : World} (ht : Lib.TabIs PP w0 "internal/strconv.uint64pow10" .u64 Lib.pow10Tab) (h : AH) (R : CR → AH → Prop) (hR : R (.ret (.bool true)) h) : WF PP w0 RD [] h R := by
 refine⟨CL (by kernel_rfl),fun φ args' w hl hh=> ?_⟩
 have he:args'= #[]:=by
  cases iM:args'.toList with
  | nil=>simpa using iM
  | cons _ _=>rw [iM]at hl;cases hl
 subst he
 have hC:jk PP w 12 [] ⟨0,.e⟩ (fun r _=>match r with | .ret (.bool b)=>b | _=>false):=aca bT anG (anK (ad0 hh.below ht)) _ _ anH
 refine Calls.mono (hC.2 (fun _=>none) #[] w .nil (HR.bare PP w)) fun E w' hE=> ?_
 obtain⟨r,h',φ',h1,h2,h3,h4,h5⟩:=hE
 refine⟨.ret (.bool true),h,φ, @decide_eq_true _ (Classical.propDecidable _) hR,Ext.refl _ _,Nat.le_refl _,HR.behind hh h4.below, ?_⟩
 cases r with
 | aT v=>cases h1
 | ret v =>
  obtain⟨v',rfl,hv⟩:=h5
  cases v with
  | bool b =>
   have hb:b=true:=h1
   subst hb
   exact⟨v',rfl,by rw [hv.sv];exact .bool _⟩
  | _=>cases h1
end
end Go.Ve.T
namespace Go.Ve.T
open Go.Ve Go.Proofs
class BE (w0:World):Prop where
 t : Lib.TabIs PP w0 "internal/strconv.uint64pow10" .u64 Lib.pow10Tab
def ad1:Option Bool:=some true
theorem anQ {w0:World}[T8:BE w0] {g h:AH}{Q:CR→AH→Prop}{r:Bool}(sg:Sub g h) (ok:h.Ok) (M:ad1=some r) (H:∀(g' h':AH),Sep ⟨g,h,[]⟩ g' h' []→Q (.ret (.bool r)) h'):WF PP w0 RD [] h Q:=by
 cases M
 exact anP T8.t h Q (H g h (Sep.start sg ok))
end Go.Ve.T
namespace Go.Ve.T
open Go.Ve Go.Proofs
noncomputable section
set_option maxRecDepth 10000
def Gm (N:Nat) (v6:Int) (v9:aN) (v21:Bool)  :Option Bool :=
 bif v21 then(
 some (decide (v6=v9.fE)))else(
 some false)
def Gn (N:Nat) (v2:Bool) (v6:Int) (v9:aN) (cX:Bool)  :Option Bool :=
 bif v2 then(
 Gm N v6 v9 cX)else(
 Gm N v6 v9 false)
def Gp (N:Nat) (v1:ak) (v2:Bool)  :Option Bool :=
(xa N v1).bind fun zN =>
(xb N v1).bind fun jb =>
(CM N zN.1 jb.fL).bind fun xc =>
 bif xc then(
(zO N v1).bind fun gO =>
(zP N v1).bind fun mn =>
(CN N gO mn).bind fun tg =>
 Gn N v2 zN.2 jb tg)else(
 Gn N v2 zN.2 jb false)
def MQ (N:Nat) (x0:ak):Option Bool :=
(ad1).bind fun aR =>
(zQ x0).bind fun vh =>
 bif (!vh)then(
 some aR)else(
 Gp N x0 aR)
abbrev MR (c:Cx) (R:Value→W) (r:Bool):Prop:=∀(g' h':AH),Sep c g' h' []→R (.bool r) h'
theorem ad6 {w0:World}[BE w0] {c:Cx}{g h:AH}{E R:Value→W}{r:Bool}{N:Nat}{v6:Int}{v9:aN}{v21:Bool}{gm:Nat}{Gq:Value}  (M:Gm N v6 v9 v21=some r) (S:Sep c g h [.bx gm [Gq,(vi v9.fE)]]) (Vu:ab (rI .i64) 1 g Gq v9.fL)  (H:MR c R r):RA w0 E R (vi v6) (au gm 0) (.bool v21) h:=by
 unfold RA
 unfold Gm at M
 cases hc:v21
 · have M:=aS hc M
   refine aA (by decide) ?_
   refine aA (by decide) ?_
   refine aA (by decide) ?_
   refine aA (by decide) ?_
   refine bf.2 ?_
   cases M
   exact H _ _  S.bH
 · have M:=aQ hc M
   refine ax rfl ?_
   refine ax rfl ?_
   refine bC.2 ?_
   refine ax rfl ?_
   refine S.bz 0 rfl rfl ?_
   refine ax rfl ?_
   refine cK.2 ?_
   refine bf.2 ?_
   cases M
   exact H _ _  S.bH
theorem ad7 {w0:World}[BE w0] {c:Cx}{g h:AH}{E R:Value→W}{r:Bool}{N:Nat}{v2:Bool}{v6:Int}{v9:aN}{cX:Bool}{gm:Nat}{Gq:Value}  (M:Gn N v2 v6 v9 cX=some r) (S:Sep c g h [.bx gm [Gq,(vi v9.fE)]]) (Vu:ab (rI .i64) 1 g Gq v9.fL)  (H:MR c R r):RB w0 E R (.bool v2) (vi v6) (au gm 0) (.bool cX) h:=by
 unfold RB
 unfold Gn at M
 cases hc:v2
 · have M:=aS hc M
   refine aA (by decide) ?_
   refine bf.2 ?_
   exact ad6 M S Vu H
 · have M:=aQ hc M
   refine ax rfl ?_
   refine bf.2 ?_
   exact ad6 M S Vu H
theorem an4 {w0:World}[BE w0] {c:Cx}{g h:AH}{E R:Value→W}{r:Bool}{N:Nat}{v1:ak}{v2:Bool}{al:Nat}{av aw:Value}  (M:Gp N v1 v2=some r) (S:Sep c g h [.bx al [(.string v1.aB),(.string v1.aC),(vi v1.fArgs),(vi v1.ay),(vi v1.az),av,aw]]) (aG:ab aq.rep 4 g av v1.ae) (aJ:ab aK.rep 3 g aw v1.aM)  (H:MR c R r):RC w0 E R (au al 0) (.bool v2) h:=by
 unfold RC
 unfold Gp at M
 refine S.dc [(.string v1.aB),(.string v1.aC),(vi v1.fArgs),(vi v1.ay),(vi v1.az),av,aw] 0 rfl rfl rfl (by decide) ?_
 obtain⟨zN,Vv,M⟩:=bind_some M
 refine an5 Vv S.sub S.ok aG aJ (fun g h w_8 S1 zR=> ?_)
 have aG:=ab.mono aG aq.mono S1.bF
 have aJ:=ab.mono aJ aK.mono S1.bF
 have S:=S.pD S1
 refine(eY rfl).2 ?_
 refine(eY rfl).2 ?_
 refine S.dc [(.string v1.aB),(.string v1.aC),(vi v1.fArgs),(vi v1.ay),(vi v1.az),av,aw] 0 rfl rfl rfl (by decide) ?_
 obtain⟨jb,Vw,M⟩:=bind_some M
 refine an6 Vw S.sub S.ok aG aJ (fun g h ad8 S1 xd=> ?_)
 have aG:=ab.mono aG aq.mono S1.bF
 have aJ:=ab.mono aJ aK.mono S1.bF
 have zR:=ab.mono zR (du .i64) S1.bF
 have S:=S.pD S1
 refine S.alloc (l:=[cg,(vi 0)]) (aa rfl (aa rfl rfl)) (fun awp h S=> ?_)
 refine S.dv [ad8,(vi jb.fE)] [ad8,(vi jb.fE)] rfl rfl (aa xd.one (aa rfl rfl)) (Nat.le_of_ble_eq_true rfl) rfl (fun h S=> ?_)
 refine bC.2 ?_
 refine S.bz 0 rfl rfl ?_
 obtain⟨xc,Gr,M⟩:=bind_some M
 refine ad9 Gr S.sub S.ok zR xd (fun _ h  S1  => ?_)
 have S:=S.dB S1
 cases hc:xc
 · have M:=aS hc M
   refine aA (by decide) ?_
   refine aA (by decide) ?_
   refine aA (by decide) ?_
   refine an7 (by decide) ?_
   refine aA (by decide) ?_
   refine aA (by decide) ?_
   refine bf.2 ?_
   have S:=S.t1
   exact ad7 M S xd H
 · have M:=aQ hc M
   refine ax rfl ?_
   refine S.dc [(.string v1.aB),(.string v1.aC),(vi v1.fArgs),(vi v1.ay),(vi v1.az),av,aw] 1 rfl rfl rfl (by decide) ?_
   refine ax rfl ?_
   refine S.dc [(.string v1.aB),(.string v1.aC),(vi v1.fArgs),(vi v1.ay),(vi v1.az),av,aw] 1 rfl rfl rfl (by decide) ?_
   refine ax rfl ?_
   obtain⟨gO,zS,M⟩:=bind_some M
   refine an8 zS S.sub S.ok aG aJ (fun g h awq S1 zT=> ?_)
   have aG:=ab.mono aG aq.mono S1.bF
   have aJ:=ab.mono aJ aK.mono S1.bF
   have zR:=ab.mono zR (du .i64) S1.bF
   have xd:=ab.mono xd (du .i64) S1.bF
   have S:=S.pD S1
   refine an9 rfl ?_
   refine⟨?_, ?_⟩
   · refine S.dc [(.string v1.aB),(.string v1.aC),(vi v1.fArgs),(vi v1.ay),(vi v1.az),av,aw] 1 rfl rfl rfl (by decide) ?_
     exact aoa (zU aea (zU aea (zU Vx (zU Vx (zU Vx (zU aG.MS (zU aJ.MS aob)))))))
   · refine ax rfl ?_
     obtain⟨mn,Gs,M⟩:=bind_some M
     refine aoc Gs S.sub S.ok aG aJ (fun g h awr S1 aod=> ?_)
     have aG:=ab.mono aG aq.mono S1.bF
     have aJ:=ab.mono aJ aK.mono S1.bF
     have zR:=ab.mono zR (du .i64) S1.bF
     have xd:=ab.mono xd (du .i64) S1.bF
     have zT:=ab.mono zT (pE (du .i64)) S1.bF
     have S:=S.pD S1
     refine ax rfl ?_
     obtain⟨tg,Gt,M⟩:=bind_some M
     refine aoe Gt S.sub S.ok zT aod (fun _ h  S1  => ?_)
     have S:=S.dB S1
     refine bf.2 ?_
     have S:=S.t1
     exact ad7 M S xd H
theorem ai5 {w0:World}[BE w0] {g h:AH}{Q:CR→AH→Prop}{r:Bool}{N:Nat}{x0:ak}{cU cV:Value}(M:MQ N x0=some r) (sg:Sub g h) (ok:h.Ok) (cv:ab aq.rep 4 g cU x0.ae) (cZ:ab aK.rep 3 g cV x0.aM) (H:MR ⟨g,h,[]⟩ (fun v=>Q (.ret v)) r):WF PP w0 ZV [(.agg ⟨[(.string x0.aB),(.string x0.aC),(vi x0.fArgs),(vi x0.ay),(vi x0.az),cU,cV]⟩)] h Q:=by
 refine ai1 _ ?_
 have S:=Sep.start sg ok
 unfold ZU
 unfold MQ at M
 refine S.box [(.string x0.aB),(.string x0.aC),(vi x0.fArgs),(vi x0.ay),(vi x0.az),cU,cV] rfl (aa rfl (aa rfl (aa rfl (aa rfl (aa rfl (aa cv.one (aa cZ.one rfl))))))) (fun jl h S=> ?_)
 obtain⟨aR,jc,M⟩:=bind_some M
 refine anQ S.sub S.ok jc (fun _ h  S1  => ?_)
 have S:=S.dB S1
 refine S.dc [(.string x0.aB),(.string x0.aC),(vi x0.fArgs),(vi x0.ay),(vi x0.az),cU,cV] 0 rfl rfl rfl (by decide) ?_
 obtain⟨vh,Gu,M⟩:=bind_some M
 refine aof Gu S.sub S.ok cv cZ (fun _ h  S1  => ?_)
 have S:=S.dB S1
 refine gN.2 ?_
 refine bw (fun hc=> ?_) (fun hc=> ?_)
 · have M:=aQ hc M
   cases M
   exact H _ _  S.bH
 · have M:=aS hc M
   exact an4 M S cv cZ H
end
end Go.Ve.T
namespace Go.Ve.T
open Go.Ve
noncomputable section
theorem DW (x a b:Int):tl x a b=some (decide (a≤x∧x≤b)):=by
 unfold tl
 by_cases h:a≤x<;>simp [h]
theorem DX (x a b:Int):tn x a b=some (decide (a≤x∧x≤b)):=by
 unfold tn
 by_cases h:a≤x<;>simp [h]
def Yg (k:Int):Int:=if k=3 then 11 else if k=4 then 3 else if k=5 then 4 else if k=7 then 5 else if k=9 then 10 else if k=10 then 9 else if k=11 then 12 else if k=12 then 13 else k
def yp (op:Int):cP:=bif isOp op then⟨⟨if op=20 then 7 else Yg (dM op).eT.e0,Yg (dM op).eT.e1,Yg (dM op).eT.e2⟩,(dM op).lb,(dM op).dY,(dM op).lK⟩else⟨⟨0,0,0⟩,0,⟨0,0⟩,false⟩
theorem Ot (op:Int):xm op=some (yp op,isOp op):=by
 cases h:isOp op with
 | true=>rcases Gk h with rfl | rfl | rfl | rfl | rfl | rfl | rfl | rfl | rfl | rfl | rfl | rfl | rfl | rfl | rfl | rfl | rfl | rfl | rfl | rfl | rfl | rfl | rfl | rfl | rfl | rfl | rfl | rfl | rfl | rfl | rfl | rfl | rfl | rfl<;>rfl
 | false =>
  have hh:∀k:Int,1≤k→k≤34→decide (op=k)=false:=fun k h1 h2=>decide_eq_false fun e=>by subst e;unfold isOp at h;rw [decide_eq_false_iff_not]at h;omega
  have e:yp op=⟨⟨0,0,0⟩,0,⟨0,0⟩,false⟩:=by unfold yp;rw [h];rfl
  rw [e]
  unfold xm GV Ag xk Da M9
  simp [hh,cond_false]
def vL {α β:Type}(st:Int→α→Option (Option β)) (fin:Option β):List α→Int→Option β
 | [],_=>fin
 | a::r,y=>match st y a with
  | some b=>b
  | none=>vL st fin r (y+1)
theorem yr {α β:Type}(l:List α) (I:Nat→Int→Option β) (st:Int→α→Option (Option β)) (fin:Option β) (hl:l.length<1000000)
 (step:∀n (y:Int) a,y<l.length→ix l y=some a→I (n+1) y=match st y a with | some b=>b | none=>I n (bD .i64 (y+1)))
 (stop:∀n,I (n+1) (l.length:Int)=fin):∀(n i:Nat),i≤l.length→l.length<n+i→I n (i:Int)=vL st fin (l.drop i) i
 | 0,i,h1,h2=>by omega
 | n+1,i,h1,h2=>by
  by_cases hi:i<l.length
  · have ea:ix l (i:Int)=some l[i]:=List.getElem?_eq_getElem hi
    rw [step n i l[i] (by omega) ea,List.drop_eq_getElem_cons hi]
    show _=match st i l[i]with | some b=>b | none=>vL st fin (l.drop (i+1)) ((i:Int)+1)
    cases st i l[i]with
    | some b=>rfl
    | none =>
     show I n (bD .i64 ((i:Int)+1))=_
     rw [jY (by omega) (by omega)]
     have:=yr l I st fin hl step stop n (i+1) hi (by omega)
     rw [show((i+1:Nat):Int)=(i:Int)+1 from rfl]at this
     exact this
  · have:i=l.length:=by omega
    subst this
    rw [stop,List.drop_length];rfl
def oW {α:Type}(p:α→Bool):List α→Int→Int
 | [],_=> -1
 | a::r,y=>bif p a then y else oW p r (y+1)
theorem Ou {α:Type}(p:α→Bool):∀(l:List α) (y:Int),vL (fun y a=>bif p a then some (some y)else none) (some (-1)) l y=some (oW p l y)
 | [],y=>rfl
 | a::r,y=>by
  unfold vL oW
  cases p a with
  | true=>rfl
  | false=>exact Ou p r (y+1)
theorem ahe {α:Type}(p:α→Bool):∀(l:List α) (y:Int),0≤y→oW p l y= -1∨∃(k:Nat) (a:α),l[k]? =some a∧p a=true∧oW p l y=y+k
 | [],y,_=>.inl rfl
 | a::r,y,hy=>by
  unfold oW
  cases hp:p a with
  | true=>exact .inr ⟨0,a,rfl,hp,(Int.add_zero y).symm⟩
  | false =>
   rcases ahe p r (y+1) (by omega)with h | ⟨k,b,h1,h2,h3⟩
   · exact .inl h
   · refine .inr ⟨k+1,b,h1,h2, ?_⟩
     show oW p r (y+1)=_
     rw [h3];omega
theorem ahf {σ β:Type}(I:Nat→σ→Int→Option β) (hi:Nat) (Inv:Nat→σ→Prop)
 (step:∀n (i:Nat) s,i<hi→Inv i s→∃s',Inv (i+1) s'∧I (n+1) s (i:Int)=I n s' ((i:Int)+1)):∀n (i:Nat) s,Inv i s→i≤hi→hi<n+i→∃n' s',Inv hi s'∧I n s (i:Int)=I (n'+1) s' (hi:Int)
 | 0,i,s,h,h1,h2=>by omega
 | n+1,i,s,h,h1,h2=>by
  by_cases e:i<hi
  · obtain⟨s',h3,h4⟩:=step n i s e h
    obtain⟨n',s2,h5,h6⟩:=ahf I hi Inv step n (i+1) s' h3 e (by omega)
    exact⟨n',s2,h5,h4.trans h6⟩
  · have:i=hi:=by omega
    subst this
    exact⟨n,s,h,rfl⟩
def fZ (i:aq):Option Int:=if i.aI=24 then some i.fA else if i.aI=25∨i.aI=32 then some i.fB else none
theorem Yh (i:aq):Ah i=some (match fZ i with | some x=>(x,true) | none=>(0,false)):=by
 unfold Ah Nd GX Nc fZ
 by_cases DY:i.aI=24
 · simp [DY]
 · by_cases h25:i.aI=25
   · simp [DY,h25]
   · by_cases iV:i.aI=32<;>simp [DY,h25,iV]
theorem ahg (n:Nat) (i:aq) (ho:isOp i.aI=true):Aa (n+4) i=some (fZ i).toList:=by
 unfold Aa CW fZ
 rcases Gk ho with h | h | h | h | h | h | h | h | h | h | h | h | h | h | h | h | h | h | h | h | h | h | h | h | h | h | h | h | h | h | h | h | h | h<;>rw [h]<;>rfl
theorem ahh (N:Nat) (l:List aK) (f:aK→Option Bool) (p:aK→Bool) (hf:∀a,f a=some (p a)) (hl:l.length<1000000) (hN:l.length<N):C1 N l f=some (oW p l 0):=by
 unfold C1
 rw [←Ou]
 exact yr l (fun n y=>C0 N (l.length:Int) l f n y) _ _ hl (fun n y a hy ha=>by
  show(bif decide (y<(l.length:Int))then((ix l y).bind fun gG=>(f gG).bind fun eM=>bif eM then some y else C0 N (l.length:Int) l f n (bD .i64 (y+1)))else some (-1))=_
  rw [decide_eq_true hy,ha]
  show((f a).bind _)=_
  rw [hf]
  cases p a<;>rfl) (fun n=>by
  show(bif decide ((l.length:Int)<(l.length:Int))then _ else some (-1))=_
  rw [decide_eq_false (Int.lt_irrefl _)];rfl) N 0 (Nat.zero_le _) (by omega)
theorem avg (N:Nat) (l:List Int) (f:Int→Option Bool) (p:Int→Bool) (hf:∀a,f a=some (p a)) (hl:l.length<1000000) (hN:l.length<N):GI N l f=some (oW p l 0):=by
 unfold GI
 rw [←Ou]
 exact yr l (fun n y=>CY N (l.length:Int) l f n y) _ _ hl (fun n y a hy ha=>by
  show(bif decide (y<(l.length:Int))then((ix l y).bind fun gG=>(f gG).bind fun eM=>bif eM then some y else CY N (l.length:Int) l f n (bD .i64 (y+1)))else some (-1))=_
  rw [decide_eq_true hy,ha]
  show((f a).bind _)=_
  rw [hf]
  cases p a<;>rfl) (fun n=>by
  show(bif decide ((l.length:Int)<(l.length:Int))then _ else some (-1))=_
  rw [decide_eq_false (Int.lt_irrefl _)];rfl) N 0 (Nat.zero_le _) (by omega)
theorem Ov {α β:Type}(p:α→Bool) (b:β) (fin:Option β):∀(l:List α) (y:Int),vL (fun _ a=>bif p a then none else some (some b)) fin l y=bif l.all p then fin else some b
 | [],_=>rfl
 | a::r,y=>by
  unfold vL
  rw [List.all_cons]
  cases p a with
  | false=>rfl
  | true=>exact Ov p b fin r (y+1)
theorem ahi {α:Type}(p:α→Bool) (l:List α):decide (0≤oW p l 0)=l.any p:=by
 have key:∀(l:List α) (y:Int),0≤y→decide (0≤oW p l y)=l.any p:=by
  intro l
  induction l with
  | nil=>intro y _;rfl
  | cons a r ih =>
   intro y hy
   unfold oW
   rw [List.any_cons]
   cases p a with
   | true=>exact decide_eq_true hy
   | false=>exact ih (y+1) (by omega)
 exact key l 0 (Int.le_refl 0)
def rZ (n:Int) (i:aq):Bool:=isOp i.aI&&(match fZ i with | some x=>decide (0≤x∧x≤n-1) | none=>true)
def mG (n:Int) (g:aK):Bool:=decide (g.eD<0)||(decide (g.fg≤g.eD)||(decide (n<g.fg)|| !decide (0≤g.eg∧g.eg≤n-1)))
def r7 (u:ak):Bool:=decide (1≤(u.ae.length:Int)∧(u.ae.length:Int)≤600)&&(!decide (40<(u.aM.length:Int))&&(decide (0≤u.ay∧u.ay≤200)&&(decide (0≤u.az∧u.az≤200)&&(u.ae.all (rZ u.ae.length)&& !u.aM.any (mG u.ae.length)))))
theorem avh (n:Int) (hn:bD .i64 (n-1)=n-1) (g:aK):C4 g n=some (mG n g):=by
 unfold C4 GN GM mG
 rw [DW,hn]
 cases decide (g.eD<0)<;>cases decide (g.fg≤g.eD)<;>cases decide (n<g.fg)<;>rfl
theorem avi (N:Nat) (hN:1000≤N) (u:ak) (hl:u.ae.length≤600) (hg:u.aM.length≤40):GQ N u (u.ae.length:Int)=some (u.ae.all (rZ u.ae.length)&& !u.aM.any (mG u.ae.length)):=by
 have hw:bD .i64 ((u.ae.length:Int)-1)=(u.ae.length:Int)-1:=jY (by omega) (by omega)
 have Yi:C6 N u (u.ae.length:Int)=some (!u.aM.any (mG u.ae.length)):=by
  unfold C6 M7
  rw [ahh N u.aM _ (mG u.ae.length) (fun a=>avh _ hw a) (by omega) (by omega)]
  show some (!decide (0≤oW (mG u.ae.length) u.aM 0))=_
  rw [ahi]
 obtain⟨n,rfl⟩:∃n,N=n+4:=⟨N-4,by omega⟩
 unfold GQ
 have h:=yr u.ae (fun m y=>GP (n+4) (u.ae.length:Int) u.ae (u.ae.length:Int) u m y) (fun _ a=>bif rZ u.ae.length a then none else some (some false)) (some (!u.aM.any (mG u.ae.length))) (by omega)
  (fun m y a hy ha=>by
   show(bif decide (y<(u.ae.length:Int))then((ix u.ae y).bind fun jb=>(some (dM jb.aI,isOp jb.aI)).bind fun gO=>bif (!gO.2)then C5 (n+4) y true u _ else((Aa (n+4) jb).bind fun M8=>(GL (n+4) M8 (fun a0=>C3 a0 (u.ae.length:Int))).bind fun tg=>C5 (n+4) y tg u _))else _)=_
   rw [decide_eq_true hy,ha]
   simp only [Option.bind_some,cond_true]
   unfold rZ
   cases ho:isOp a.aI with
   | false=>rfl
   | true =>
    rw [ahg n a ho]
    simp only [Option.bind_some,Bool.not_true,cond_false,Bool.true_and]
    unfold GL
    have hlen:(fZ a).toList.length≤1:=by cases fZ a<;>simp
    rw [avg (n+4) _ _ (fun x=> !decide (0≤x∧x≤(u.ae.length:Int)-1)) (fun x=>by unfold C3;rw [DW,hw];rfl) (by omega) (by omega)]
    simp only [Option.bind_some]
    rw [ahi]
    cases fZ a with
    | none=>rfl
    | some x=>
     have e1:((some x).toList.any fun x=> !decide (0≤x∧x≤(u.ae.length:Int)-1))= !decide (0≤x∧x≤(u.ae.length:Int)-1):=by simp
     rw [e1]
     dsimp only
     by_cases hd:0≤x∧x≤(u.ae.length:Int)-1
     · rw [decide_eq_true hd];rfl
     · rw [decide_eq_false hd];rfl)
  (fun m=>by
   show(bif decide ((u.ae.length:Int)<(u.ae.length:Int))then _ else C6 (n+4) u (u.ae.length:Int))=_
   rw [decide_eq_false (Int.lt_irrefl _)];exact Yi) (n+4) 0 (Nat.zero_le _) (by omega)
 refine h.trans ?_
 rw [List.drop_zero,Ov]
 cases u.ae.all (rZ u.ae.length)<;>rfl
theorem Ow (N:Nat) (hN:1000≤N) (u:ak):C7 N u=some (r7 u):=by
 unfold C7 r7 GU GS GR
 rw [DW,DW,DW]
 by_cases h1:1≤(u.ae.length:Int)∧(u.ae.length:Int)≤600
 · rw [decide_eq_true h1]
   by_cases h2:40<(u.aM.length:Int)
   · rw [decide_eq_true h2];rfl
   · rw [decide_eq_false h2,avi N hN u (by omega) (by omega)]
     cases decide (0≤u.ay∧u.ay≤200)<;>cases decide (0≤u.az∧u.az≤200)<;>rfl
 · rw [decide_eq_false h1];rfl
theorem avj (N:Nat) (hN:1000≤N) (u:ak) (hl:u.ae.length≤600) (hg:u.aM.length≤40):G4 N (u.ae.length:Int) u=some (u.ae.all (rZ u.ae.length)&& !u.aM.any (mG u.ae.length)):=by
 have hw:bD .i64 ((u.ae.length:Int)-1)=(u.ae.length:Int)-1:=jY (by omega) (by omega)
 have Yi:Dd N u (u.ae.length:Int)=some (!u.aM.any (mG u.ae.length)):=by
  unfold Dd
  have h:=yr u.aM (fun m y=>G2 N u (u.ae.length:Int) m y) (fun _ a=>bif !mG u.ae.length a then none else some (some false)) (some true) (by omega)
   (fun m y a hy ha=>by
    show(bif decide (y<(u.aM.length:Int))then((ix u.aM y).bind fun iQ=>bif (decide (iQ.eD<0))then Ai N iQ (u.ae.length:Int) y true u _ else Ai N iQ (u.ae.length:Int) y (decide (iQ.fg≤iQ.eD)) u _)else _)=_
    rw [decide_eq_true hy,ha]
    simp only [Option.bind_some,cond_true]
    unfold Ai G0 GZ mG
    rw [DX,hw]
    cases decide (a.eD<0)<;>cases decide (a.fg≤a.eD)<;>cases decide ((u.ae.length:Int)<a.fg)<;>cases decide (0≤a.eg∧a.eg≤(u.ae.length:Int)-1)<;>rfl)
   (fun m=>by
    show(bif decide ((u.aM.length:Int)<(u.aM.length:Int))then _ else some true)=_
    rw [decide_eq_false (Int.lt_irrefl _)];rfl) N 0 (Nat.zero_le _) (by omega)
  refine h.trans ?_
  rw [List.drop_zero,Ov]
  have:u.aM.all (fun a=> !mG u.ae.length a)= !u.aM.any (mG u.ae.length):=by simp [List.all_eq_not_any_not]
  rw [this]
  cases u.aM.any (mG u.ae.length)<;>rfl
 unfold G4
 have h:=yr u.ae (fun m y=>G3 N (u.ae.length:Int) u m y) (fun _ a=>bif rZ u.ae.length a then none else some (some false)) (some (!u.aM.any (mG u.ae.length))) (by omega)
  (fun m y a hy ha=>by
   show(bif decide (y<(u.ae.length:Int))then GY N u y (u.ae.length:Int) _ else _)=_
   unfold GY
   rw [decide_eq_true hy,ha]
   simp only [Option.bind_some,cond_true,Ot,Yh,DX,hw]
   unfold Dc rZ
   cases isOp a.aI with
   | false=>rfl
   | true =>
    cases fZ a with
    | none=>rfl
    | some x=>
     simp only [Bool.not_true,cond_false,cond_true,Bool.true_and]
     cases decide (0≤x∧x≤(u.ae.length:Int)-1)<;>rfl)
  (fun m=>by
   show(bif decide ((u.ae.length:Int)<(u.ae.length:Int))then _ else Dd N u (u.ae.length:Int))=_
   rw [decide_eq_false (Int.lt_irrefl _)];exact Yi) N 0 (Nat.zero_le _) (by omega)
 refine h.trans ?_
 rw [List.drop_zero,Ov]
 cases u.ae.all (rZ u.ae.length)<;>rfl
theorem Ox (N:Nat) (hN:1000≤N) (u:ak):De N u=some (r7 u):=by
 unfold De r7 G7 G6 G5
 rw [DX,DX,DX]
 by_cases h1:1≤(u.ae.length:Int)∧(u.ae.length:Int)≤600
 · rw [decide_eq_true h1]
   by_cases h2:40<(u.aM.length:Int)
   · rw [decide_eq_true h2];rfl
   · rw [decide_eq_false h2,avj N hN u (by omega) (by omega)]
     cases decide (0≤u.ay∧u.ay≤200)<;>cases decide (0≤u.az∧u.az≤200)<;>rfl
 · rw [decide_eq_false h1];rfl
end
end Go.Ve.T
namespace Go.Ve.T
open Go.Ve
noncomputable section
theorem Yu {ρ:Type}(len:Nat) (I:Nat→Nat→Option ρ) (F:Option ρ) (step:∀n i,i<len→I (n+1) i=I n (i+1)) (stop:∀n,I (n+1) len=F):∀n i,i≤len→len<n+i→I n i=F
 | 0,i,h1,h2=>by omega
 | n+1,i,h1,h2=>by
  by_cases hi:i<len
  · rw [step n i hi];exact Yu len I F step stop n (i+1) hi (by omega)
  · have:i=len:=by omega
    subst this;exact stop n
theorem vN (i:Nat) (h:i<1000000):bD .i64 ((i:Int)+1)=((i+1:Nat):Int):=by rw [jY (by omega) (by omega)];rfl
theorem yx (i n:Nat) (h:i<n):decide ((i:Int)<(n:Int))=true:=decide_eq_true (by omega)
theorem vO (n:Nat):decide ((n:Int)<(n:Int))=false:=decide_eq_false (Int.lt_irrefl _)
structure Bl (u:ak) (dq:List Bool):Prop where
 pl:r7 u=true
 len:dq.length=u.ae.length
theorem Bl.n1 {u:ak}{dq:List Bool}(H:Bl u dq):1≤u.ae.length∧u.ae.length≤600∧u.aM.length≤40:=by
 have:=H.pl
 unfold r7 at this
 simp only [Bool.and_eq_true,decide_eq_true_eq,Bool.not_eq_true',decide_eq_false_iff_not]at this
 omega
theorem Bl.jmp {u:ak}{dq:List Bool}(H:Bl u dq){i:Nat}{x:aq}(hx:u.ae[i]? =some x){p:Int}(hp:fZ x=some p):0≤p∧p<u.ae.length:=by
 have:=H.pl
 unfold r7 at this
 simp only [Bool.and_eq_true]at this
 have h:=List.all_eq_true.1 this.2.2.2.2.1 x (List.mem_of_getElem? hx)
 unfold rZ at h
 rw [hp]at h
 simp only [Bool.and_eq_true,decide_eq_true_eq]at h
 omega
theorem Bl.IZ {u:ak}{dq:List Bool}(H:Bl u dq){i:Nat}{g:aK}(hg:u.aM[i]? =some g):0≤g.eD∧g.eD<g.fg∧g.fg≤u.ae.length∧0≤g.eg∧g.eg<u.ae.length:=by
 have:=H.pl
 unfold r7 at this
 simp only [Bool.and_eq_true,Bool.not_eq_true',List.any_eq_false]at this
 have h:=this.2.2.2.2.2 g (List.mem_of_getElem? hg)
 unfold mG at h
 simp only [Bool.or_eq_true,decide_eq_true_eq,Bool.not_eq_true',decide_eq_false_iff_not,not_or,Decidable.not_not]at h
 omega
end
end Go.Ve.T
namespace Go.Ve.T
open Go.Ve
noncomputable section
theorem OH (N:Nat) (l:List Int) (hl:l.length<1000000) (hN:l.length<N):CM N l l=some true:=by
 unfold CM Nk
 simp only [decide_true,Bool.not_true,cond_false]
 exact Yu l.length (fun n i=>Hc N l l n (i:Int)) (some true) (fun n i hi=>by
  show Al N _ _ _ _=_
  unfold Al Nj Ni
  rw [yx i _ hi,iB,List.getElem?_eq_getElem hi]
  simp only [Option.bind_some,cond_true,decide_true,Bool.not_true,cond_false]
  rw [vN i (by omega)]) (fun n=>by
  show Al N _ _ _ _=_
  unfold Al
  rw [vO];rfl) N 0 (Nat.zero_le _) (by omega)
end
end Go.Ve.T
namespace Go.Ve.T
open Go.Ve
noncomputable section
theorem avX (u:ak):∃b,zQ u=some b:=by
 unfold zQ Ao
 cases decide ((u.ae.length:Int)≤40)<;>cases decide (600<(u.ae.length:Int))<;>cases decide ((u.ae.length:Int)≤700)<;>cases decide ((u.aM.length:Int)≤8)<;>cases decide (40<(u.aM.length:Int))<;>exact⟨_,rfl⟩
end
end Go.Ve.T
namespace Go.Ve.T
open Go.Ve
noncomputable section
structure fq (u:ak):Prop where
 pl:r7 u=true
theorem fq.cut {u:ak}(H:fq u):Bl u (List.replicate u.ae.length true):=⟨H.pl,by simp⟩
theorem fq.n1 {u:ak}(H:fq u):1≤u.ae.length∧u.ae.length≤600∧u.aM.length≤40:=H.cut.n1
theorem fq.jmp {u:ak}(H:fq u){i:Nat}{x:aq}(hx:u.ae[i]? =some x){p:Int}(hp:fZ x=some p):0≤p∧p<u.ae.length:=H.cut.jmp hx hp
theorem fq.IZ {u:ak}(H:fq u){i:Nat}{g:aK}(hg:u.aM[i]? =some g):0≤g.eD∧g.eD<g.fg∧g.fg≤u.ae.length∧0≤g.eg∧g.eg<u.ae.length:=H.cut.IZ hg
theorem fq.op {u:ak}(H:fq u){i:Nat}{x:aq}(hx:u.ae[i]? =some x):isOp x.aI=true:=by
 have:=H.pl
 unfold r7 at this
 simp only [Bool.and_eq_true]at this
 have h:=List.all_eq_true.1 this.2.2.2.2.1 x (List.mem_of_getElem? hx)
 unfold rZ at h
 exact(Bool.and_eq_true_iff.1 h).1
def lM (i:aq) (k:Int):Int:=if k=1 then i.fA else if k=2 then i.fB else i.fC
def jx (i:aq):List Int :=
 (if 0<(dM i.aI).dY.e0∧lM i (dM i.aI).dY.e0≠-1 then [lM i (dM i.aI).dY.e0]else [])++(if 0<(dM i.aI).dY.e1∧lM i (dM i.aI).dY.e1≠-1 then [lM i (dM i.aI).dY.e1]else [])
def iW (i:aq):Int:=if (dM i.aI).lb=0 then-1 else lM i (dM i.aI).lb
theorem I4 (op:Int):((dM op).dY.e0=0∨(dM op).dY.e0=1∨(dM op).dY.e0=2∨(dM op).dY.e0=3)∧((dM op).dY.e1=0∨(dM op).dY.e1=1∨(dM op).dY.e1=2∨(dM op).dY.e1=3)∧((dM op).lb=0∨(dM op).lb=1)∧(isOp op=false→dM op=Oq):=by
 cases h:isOp op with
 | true=>rcases Gk h with h | h | h | h | h | h | h | h | h | h | h | h | h | h | h | h | h | h | h | h | h | h | h | h | h | h | h | h | h | h | h | h | h | h<;>rw [h]<;>refine⟨by decide,by decide,by decide,fun hh=>by cases hh⟩
 | false =>
  have e:dM op=Oq:=by unfold dM;rw [h];rfl
  rw [e]
  exact⟨.inl rfl,.inl rfl,.inl rfl,fun _=>rfl⟩
theorem avY (i:aq){k:Int}(hk:k=1∨k=2∨k=3):ix [i.fA,i.fB,i.fC] (bD .i64 (k-1))=some (lM i k):=by
 rcases hk with rfl | rfl | rfl<;>rfl
theorem avZ (i:aq):z8 i=some ⟨i.fA,i.fB,i.fC⟩:=rfl
theorem av0 (i:aq){k:Int}(hk:k=1∨k=2∨k=3):Dh i k=some (lM i k):=by
 rcases hk with rfl | rfl | rfl<;>rfl
theorem ahP (N:Nat) (f:fH) (b:Bool) (i:aq) (l:List Int) (y:Int) (k:Int) (K:List Int→Int→Option (List Int)) (hl:l.length≤2) (hy:ix [f.e0,f.e1] y=some k) (hk:k=0∨k=1∨k=2∨k=3) :
 Ap N f y b i l K=K (l++(if b=true∧0<k∧lM i k≠-1 then [lM i k]else [])) (bD .i64 (y+1)):=by
 unfold Ap Hl Hk Hj
 rw [hy,Option.bind_some]
 have gl:∀o:Option (List Int),gu (decide (l.length+[lM i k].length≤1048576)) o=o:=fun o=>by rw [decide_eq_true (by simp;omega)];rfl
 cases b with
 | false=>simp
 | true =>
  rcases hk with rfl | hk
  · simp
  · have h0:decide (0<k)=true:=decide_eq_true (by omega)
    rw [h0,avZ]
    simp only [cond_true,Option.bind_some,avY i hk,cond_false,gl]
    by_cases h1:lM i k= -1
    · rw [decide_eq_true h1];simp [h1]
    · rw [decide_eq_false h1];simp [h1,show 0<k by omega]
theorem avu (N:Nat) (hN:1000≤N) (i:aq):Hn N i=some (jx i):=by
 obtain⟨n,rfl⟩:∃n,N=n+4:=⟨N-4,by omega⟩
 obtain⟨h0,h1,_,hF⟩:=I4 i.aI
 unfold Hn
 show Hm (n+4) (dM i.aI).dY (isOp i.aI) i (n+4) [] 0=_
 show Ap (n+4) _ 0 _ i [] _=_
 rw [ahP (n+4) _ _ i [] 0 _ _ (by simp) rfl h0]
 show Ap (n+4) _ 1 _ i _ _=_
 rw [ahP (n+4) _ _ i _ 1 _ _ (by split<;>simp) rfl h1]
 show some _=_
 unfold jx
 cases hb:isOp i.aI with
 | true=>simp
 | false=>rw [hF hb];rfl
theorem ahQ (N:Nat) (r:cP) (i:aq) (l:List Int) (y:Int) (k:Int) (K:List Int→Int→Option (List Int)) (hl:l.length≤2) (hy:ix [r.cW.e0,r.cW.e1] y=some k) (hk:k=0∨k=1∨k=2∨k=3) :
 As N r y i l K=K (l++(if 0<k∧lM i k≠-1 then [lM i k]else [])) (bD .i64 (y+1)):=by
 unfold As Hu Ht
 simp only [hy,Option.bind_some]
 have gl:∀o:Option (List Int),gu (decide (l.length+[lM i k].length≤1048576)) o=o:=fun o=>by rw [decide_eq_true (by simp;omega)];rfl
 rcases hk with rfl | hk
 · simp
 · have h0:decide (0<k)=true:=decide_eq_true (by omega)
   simp only [h0,av0 i hk,cond_true,Option.bind_some,gl]
   by_cases h1:lM i k= -1
   · rw [decide_eq_true h1];simp [h1]
   · rw [decide_eq_false h1];simp [h1,show 0<k by omega]
theorem YG (op:Int):(yp op).cW=(dM op).dY∧(yp op).ig=(dM op).lb:=by
 unfold yp
 cases h:isOp op with
 | true=>exact⟨rfl,rfl⟩
 | false=>rw [(I4 op).2.2.2 h];exact⟨rfl,rfl⟩
theorem avT (N:Nat) (hN:1000≤N) (i:aq):Hv N i=some (jx i):=by
 obtain⟨n,rfl⟩:∃n,N=n+4:=⟨N-4,by omega⟩
 obtain⟨h0,h1,_,hF⟩:=I4 i.aI
 have hr:=(YG i.aI).1
 unfold Hv
 rw [Ot]
 show As (n+4) _ 0 i [] _=_
 rw [ahQ (n+4) _ i [] 0 _ _ (by simp) rfl (by rw [hr];exact h0)]
 show As (n+4) _ 1 i _ _=_
 rw [ahQ (n+4) _ i _ 1 _ _ (by split<;>simp) rfl (by rw [hr];exact h1)]
 show some _=_
 unfold jx
 rw [hr];simp
theorem avt (i:aq):Dg i=some (iW i):=by
 obtain⟨_,_,hw,_⟩:=I4 i.aI
 unfold Dg iW
 show(bif decide ((dM i.aI).lb=0)then some (-1)else Hp i (dM i.aI))=_
 rcases hw with h | h
 · rw [h];rfl
 · unfold Hp
   rw [h];rfl
theorem avQ (i:aq):Hw i=some (iW i):=by
 obtain⟨_,_,hw,_⟩:=I4 i.aI
 unfold Hw iW
 rw [Ot,Option.bind_some,(YG i.aI).2]
 rcases hw with h | h
 · rw [h];rfl
 · unfold Nq
   rw [(YG i.aI).2,h];rfl
def jg (l:List aK) (at_:Int):Int:=oW (fun d=>decide (d.eD≤at_∧at_<d.fg)) l 0
theorem av1 (N:Nat) (u:ak) (at_:Int) (hl:u.aM.length<1000000) (hN:u.aM.length<N):He N u at_=some (jg u.aM at_):=by
 unfold He
 rw [ahh N u.aM _ (fun d=>decide (d.eD≤at_∧at_<d.fg)) (fun d=>by unfold Hd;by_cases h:d.eD≤at_<;>simp [h]) hl hN];rfl
theorem ahz (N:Nat) (u:ak) (at_:Int) (hl:u.aM.length<1000000) (hN:u.aM.length<N):Dn N u at_=some (jg u.aM at_):=by
 unfold Dn jg
 rw [←Ou]
 exact yr u.aM (fun n y=>Aw N u at_ n y) _ _ hl (fun n y a hy ha=>by
  show(bif decide (y<(u.aM.length:Int))then((ix u.aM y).bind fun aR=>bif decide (aR.eD≤at_)then((ix u.aM y).bind fun vr=>bif decide (at_<vr.fg)then some y else Aw N u at_ n (bD .i64 (y+1)))else(bif false then some y else Aw N u at_ n (bD .i64 (y+1))))else some (-1))=_
  rw [decide_eq_true hy,ha]
  by_cases h1:a.eD≤at_<;>by_cases h2:at_<a.fg<;>simp [h1,h2]) (fun n=>by
  show(bif decide ((u.aM.length:Int)<(u.aM.length:Int))then _ else some (-1))=_
  rw [decide_eq_false (Int.lt_irrefl _)];rfl) N 0 (Nat.zero_le _) (by omega)
abbrev jQ (op:Int):Bool:=(dM op).l5
theorem av2 (i:aq):Hs i=some (jQ i.aI):=by
 unfold Hs Hr Hq
 cases h:isOp i.aI with
 | true=>rcases Gk h with h | h | h | h | h | h | h | h | h | h | h | h | h | h | h | h | h | h | h | h | h | h | h | h | h | h | h | h | h | h | h | h | h | h<;>rw [h]<;>rfl
 | false =>
  have hh:∀k:Int,1≤k→k≤34→decide (i.aI=k)=false:=fun k h1 h2=>decide_eq_false fun e=>by rw [e]at h;unfold isOp at h;rw [decide_eq_false_iff_not]at h;omega
  have e:jQ i.aI=false:=by unfold jQ dM;rw [h];rfl
  rw [e,hh 24 (by omega) (by omega),hh 26 (by omega) (by omega),hh 27 (by omega) (by omega),hh 28 (by omega) (by omega)]
  rfl
abbrev ny (i:aq):Bool:=(dM i.aI).lK
theorem ahA (i:aq):Di i=some (ny i):=by
 unfold Di
 rw [Ot]
 show some (yp i.aI).iE=_
 unfold yp ny dM
 cases isOp i.aI<;>rfl
theorem OB {l:List aK}{y:Int}(h:0≤jg l y):∃d,ix l (jg l y)=some d∧d∈l:=by
 unfold jg at *
 rcases ahe (fun d:aK=>decide (d.eD≤y∧y<d.fg)) l 0 (Int.le_refl 0)with e | ⟨k,a,h1,_,h3⟩
 · rw [e]at h;omega
 · refine⟨a, ?_,List.mem_of_getElem? h1⟩
   rw [h3,Int.zero_add,iB];exact h1
def jP (u:ak) (y:Nat) (i:aq):List (Int×Int) :=
 (if jQ i.aI=false∧y+1<u.ae.length then [((y:Int)+1,0)]else [])++((fZ i).toList.map fun x=>(x,1))++(if ny i=true∧0≤jg u.aM y then((ix u.aM (jg u.aM y)).toList.map fun d=>(d.eg,2))else [])
theorem ahn {u:ak}(U:fq u) (N:Nat) (hN:1000≤N) (y:Nat) (hy:y<u.ae.length):Bg N u (y:Int)=some (jP u y u.ae[y]):=by
  have hl:=U.n1.2.1
  have hg:=U.n1.2.2
  obtain⟨n,rfl⟩:∃n,N=n+4:=⟨N-4,by omega⟩
  have ho:=U.op (List.getElem?_eq_getElem hy)
  unfold Bg jP
  rw [iB,List.getElem?_eq_getElem hy,Option.bind_some,ahg n _ ho,Option.bind_some,av1 (n+4) u y (by omega) (by omega),Option.bind_some,jY (by omega) (by omega)]
  have hlen:decide ((fZ u.ae[y]).toList.length≤1000)=true:=by cases fZ u.ae[y]<;>simp
  rw [hlen]
  show(bif ny u.ae[y]&&decide (0≤jg u.aM y)then _ else _)=_
  have e1:(bif !(dM u.ae[y].aI).l5&&decide ((y:Int)+1<(u.ae.length:Int))then [((y:Int)+1,(0:Int))]else [])=(if jQ u.ae[y].aI=false∧y+1<u.ae.length then [((y:Int)+1,0)]else []):=by
    by_cases h1:jQ u.ae[y].aI=false
    · have jr:(dM u.ae[y].aI).l5=false:=h1
      by_cases h2:y+1<u.ae.length
      · rw [if_pos ⟨h1,h2⟩,jr,decide_eq_true (by omega)];rfl
      · rw [if_neg fun h=>h2 h.2,jr,decide_eq_false (by omega)];rfl
    · have jr:(dM u.ae[y].aI).l5=true:=by cases h:(dM u.ae[y].aI).l5 with
        | true=>rfl
        | false=>exact absurd h h1
      rw [if_neg fun h=>h1 h.1,jr];rfl
  rw [e1]
  generalize (if jQ u.ae[y].aI=false∧y+1<u.ae.length then [((y:Int)+1,(0:Int))]else [])=L0
  by_cases hr:ny u.ae[y]=true
  · by_cases hd:0≤jg u.aM y
    · obtain⟨d,h1,_⟩:=OB hd
      rw [if_pos ⟨hr,hd⟩,hr,decide_eq_true hd,h1];rfl
    · rw [if_neg fun h=>hd h.2,hr,decide_eq_false hd,List.append_nil];rfl
  · have o7:ny u.ae[y]=false:=by cases h:ny u.ae[y]with
      | true=>exact absurd h hr
      | false=>rfl
    rw [if_neg fun h=>hr h.1,o7,List.append_nil];rfl
def ek (u:ak) (y:Nat) (i:aq):List Int :=
 let l:=if jQ i.aI=false∧y+1<u.ae.length then [(y:Int)+1]else []
 match fZ i with
 | some x=>if x∈l then l else l++[x]
 | none=>l
theorem av3 (N:Nat) (hN:1000≤N) (l:List Int) (x:Int) (hl:l.length≤1):tr N l x=some (if x∈l then l else l++[x]):=by
 obtain⟨n,rfl⟩:∃n,N=n+4:=⟨N-4,by omega⟩
 match l,hl with
 | [],_=>rfl
 | [a],_ =>
  show Av (n+4) [a] 0 x _=_
  unfold Av
  show(bif decide (a=x)then some [a]else some ([a]++[x]))=_
  by_cases e:a=x
  · subst e;rw [decide_eq_true rfl,if_pos (List.mem_singleton.2 rfl)];rfl
  · rw [decide_eq_false e,if_neg fun h=>e (List.mem_singleton.1 h).symm];rfl
theorem ahB {u:ak}(U:fq u) (N:Nat) (hN:1000≤N) (y:Nat) (hy:y<u.ae.length):Dm N u (y:Int)=some (ek u y u.ae[y]):=by
 have hl:=U.n1.2.1
 have J1:∀l:List Int,l.length≤1→Dl N u.ae[y] l=some (match fZ u.ae[y]with | some x=>if x∈l then l else l++[x] | none=>l):=fun l h=>by
  unfold Dl HA
  rw [Yh,Option.bind_some]
  cases fZ u.ae[y]with
  | none=>rfl
  | some x =>
   show((tr N l x).bind _)=_
   rw [av3 N hN l x h];rfl
 unfold Dm HB ek
 rw [iB,List.getElem?_eq_getElem hy,Option.bind_some,av2,Option.bind_some,jY (by omega) (by omega)]
 have gu1:∀k:Option (List Int),gu (decide (([]:List Int).length+[(y:Int)+1].length≤1048576)) k=k:=fun k=>rfl
 rw [gu1]
 cases he:jQ u.ae[y].aI with
 | true =>
  rw [if_neg fun h=>by cases h.1]
  exact J1 [] (by simp)
 | false =>
  by_cases h2:y+1<u.ae.length
  · rw [decide_eq_true (show(y:Int)+1<(u.ae.length:Int) by omega),if_pos ⟨rfl,h2⟩]
    exact J1 [(y:Int)+1] (by simp)
  · rw [decide_eq_false (show¬(y:Int)+1<(u.ae.length:Int) by omega),if_neg fun h=>h2 h.2]
    exact J1 [] (by simp)
end
end Go.Ve.T
namespace Go.Ve.T
open Go.Ve
noncomputable section
def oY (l:List Int) (x:Int):List Int:=if x∈l then l else l++[x]
theorem ahI (l:List Int) (x:Int):(oY l x).length≤l.length+1:=by unfold oY;split<;>simp
theorem ahH {l:List Int}{x y:Int}:y∈oY l x↔y∈l∨y=x:=by
 unfold oY
 split
 · exact⟨.inl,fun h=>h.elim id fun e=>e▸ ‹_›⟩
 · simp
theorem YD (N:Nat) (l:List Int) (x:Int) (hl:l.length<1000000) (hN:l.length<N):tr N l x=some (oY l x):=by
 have key:∀(r:List Int) (y:Int),vL (fun _ a=>bif decide (a=x)then some (some l)else none) (some (l++[x])) r y=some (if x∈r then l else l++[x]):=by
  intro r
  induction r with
  | nil=>intro y;rfl
  | cons a r ih =>
   intro y
   unfold vL
   by_cases e:a=x
   · rw [decide_eq_true e,if_pos (by rw [e];exact List.mem_cons_self)];rfl
   · rw [decide_eq_false e]
     refine(ih (y+1)).trans ?_
     have:x∈a::r↔x∈r:=by rw [List.mem_cons];exact⟨fun h=>h.resolve_left fun e'=>e e'.symm,.inr⟩
     simp only [this]
 unfold tr
 refine(yr l (fun n y=>Hx N l x n y) (fun _ a=>bif decide (a=x)then some (some l)else none) (some (l++[x])) hl (fun n y a hy ha=>by
  show(bif decide (y<(l.length:Int))then Av N l y x _ else _)=_
  unfold Av Nr
  rw [decide_eq_true hy,ha]
  show(bif decide (a=x)then some l else _)=_
  cases decide (a=x)<;>rfl) (fun n=>by
  show(bif decide ((l.length:Int)<(l.length:Int))then _ else Ns N x l)=_
  rw [decide_eq_false (Int.lt_irrefl _)]
  show gu (decide (l.length+[x].length≤1048576)) _=_
  rw [decide_eq_true (by simp;omega)];rfl) N 0 (Nat.zero_le _) (by omega)).trans ?_
 rw [List.drop_zero,key];rfl
theorem avL (u:ak) (y:Nat) (i:aq):(ek u y i).length≤2:=by
 unfold ek
 by_cases h:jQ i.aI=false∧y+1<u.ae.length
 · rw [if_pos h]
   cases fZ i with
   | none=>simp
   | some x=>show(if x∈[(y:Int)+1]then [(y:Int)+1]else [(y:Int)+1]++[x]).length≤2;split<;>simp
 · rw [if_neg h]
   cases fZ i with
   | none=>simp
   | some x=>show(if x∈([]:List Int)then []else []++[x]).length≤2;split<;>simp
end
end Go.Ve.T
namespace Go.Ve.T
open Go.Ve
open Classical
noncomputable section
theorem Ym {u:ak}(U:fq u){y:Nat}{i:aq}(hi:u.ae[y]? =some i){p:Int×Int}(h:p∈jP u y i):0≤p.1∧p.1<u.ae.length:=by
 have hy:=(List.getElem?_eq_some_iff.1 hi).1
 unfold jP at h
 rcases List.mem_append.1 h with h | h
 · rcases List.mem_append.1 h with h | h
   · split at h
     · have:=List.mem_singleton.1 h;subst this
       have:= ‹jQ i.aI=false∧y+1<u.ae.length›.2
       exact⟨by show 0≤(y:Int)+1;omega,by show(y:Int)+1<_;omega⟩
     · cases h
   · obtain⟨x,h1,rfl⟩:=List.mem_map.1 h
     exact U.jmp hi (by simpa using h1)
 · split at h
   · obtain⟨d,h1,rfl⟩:=List.mem_map.1 h
     have h2:ix u.aM (jg u.aM y)=some d:=by simpa using h1
     obtain⟨k,_,_,h3⟩:=CO h2
     have:=U.IZ h3
     exact⟨this.2.2.2.1,this.2.2.2.2⟩
   · cases h
def mark (s:List Bool×List Int) (x:Int):List Bool×List Int:=if s.1[x.toNat]? =some true then s else(s.1.set x.toNat true,s.2++[x])
theorem ahv {α σ:Type}(b:σ→α→Option (σ×Fl)) (f:σ→α→σ) (l0:List α) (P:Nat→σ→Prop) (h:∀n s x,x∈l0→P (n+1) s→b s x=some (f s x,.go)∧P n (f s x)):∀(l:List α) (s:σ),(∀x∈l,x∈l0)→P l.length s→qB b l s=some (l.foldl f s,.go)
 | [],s,_,_=>rfl
 | x::l,s,hm,hp=>by
  obtain⟨h1,h2⟩:=h l.length s x (hm x List.mem_cons_self) hp
  unfold qB
  rw [h1]
  exact ahv b f l0 P h l (f s x) (fun y hy=>hm y (List.mem_cons_of_mem _ hy)) h2
end
end Go.Ve.T
namespace Go.Ve.T
open Go.Ve
open Classical
noncomputable section
theorem Oy {u:ak}{y:Nat}{i:aq}{x k:Int}:(x,k)∈jP u y i↔(jQ i.aI=false∧y+1<u.ae.length∧x=(y:Int)+1∧k=0)∨(fZ i=some x∧k=1)∨(ny i=true∧0≤jg u.aM y∧∃d,ix u.aM (jg u.aM y)=some d∧d.eg=x∧k=2):=by
 unfold jP
 rw [List.mem_append,List.mem_append,or_assoc]
 refine or_congr ?_ (or_congr ?_ ?_)
 · split
   · rw [List.mem_singleton,Prod.mk.injEq]
     have h:= ‹jQ i.aI=false∧y+1<u.ae.length›
     exact⟨fun e=>⟨h.1,h.2,e⟩,fun e=>e.2.2⟩
   · next hc=>exact⟨fun h=>(by cases h),fun h=>absurd ⟨h.1,h.2.1⟩ hc⟩
 · rw [List.mem_map]
   constructor
   · rintro⟨z,h,e⟩
     obtain⟨rfl,rfl⟩:=Prod.mk.inj e
     exact⟨by simpa using h,rfl⟩
   · rintro⟨h,rfl⟩
     exact⟨x,by simpa using h,rfl⟩
 · split
   · rw [List.mem_map]
     have h:= ‹ny i=true∧0≤jg u.aM y›
     constructor
     · rintro⟨d,h1,e⟩
       obtain⟨h2,h3⟩:=Prod.mk.inj e
       exact⟨h.1,h.2,d,by simpa using h1,h2,h3.symm⟩
     · rintro⟨_,_,d,h1,rfl,rfl⟩
       exact⟨d,by simpa using h1,rfl⟩
   · next hc=>exact⟨fun h=>(by cases h),fun h=>absurd ⟨h.1,h.2.1⟩ hc⟩
end
end Go.Ve.T
namespace Go.Ve.T
open Go.Ve
noncomputable section
open Classical
def r8 (op tO:Int):Int:=if op=30∧tO=0 then 1 else if op=31∧tO=0∨op=32∧tO=1 then-1 else 0
theorem avk (i:aq) (tO:Int):Hh i tO=some (r8 i.aI tO):=by
 unfold Hh Hg Hf Df Nl r8
 by_cases kP:i.aI=30<;>by_cases l6:i.aI=31<;>by_cases iV:i.aI=32<;>by_cases k0:tO=0<;>by_cases k1:tO=1<;>simp [kP,l6,iV,k0,k1]<;>omega
def jR (op d k:Int):Int:=if k=2 then 0 else d+r8 op k
inductive jo (u:ak):Nat→Int→Prop where
 | start:jo u 0 0
 | step (y:Nat) (d:Int) (i:aq) (x:Int×Int) (H:jo u y d) (hi:u.ae[y]? =some i) (hx:x∈jP u y i):jo u x.1.toNat (jR i.aI d x.2)
def Good (u:ak):Prop:=∀y d,jo u y d→(0≤d∧d≤40)∧∀d',jo u y d'→d=d'
theorem avl (op k:Int): -1≤r8 op k∧r8 op k≤1:=by
 unfold r8;split
 · omega
 · split<;>omega
structure DI (u:ak) (out q:List Int):Prop where
 len:out.length=u.ae.length
 tP:∀(y:Nat) d,out[y]? =some d→d= -1∨(0≤d∧d≤40∧jo u y d)
 Yj:∀x∈q,∃(y:Nat) (d:Int),x=(y:Int)∧out[y]? =some d∧0≤d
def tQ (u:ak) (out:List Int) (y:Nat):Prop:=∀d i,out[y]? =some d→u.ae[y]? =some i→∀x∈jP u y i,out[x.1.toNat]? =some (jR i.aI d x.2)∧0≤jR i.aI d x.2
def Ext (out fM:List Int):Prop:=∀(y:Nat) d,out[y]? =some d→0≤d→fM[y]? =some d
theorem Ext.refl (o:List Int):Ext o o:=fun _ _ h _=>h
theorem Ext.trans {a b c:List Int}(h1:Ext a b) (h2:Ext b c):Ext a c:=fun y d h h0=>h2 y d (h1 y d h h0) h0
def open_ (o:List Int):Nat:=o.countP (fun d=>decide (d<0))
theorem ahj {o:List Int}{b:Nat}{d v:Int}(h:o[b]? =some d) (hd:d<0) (hv:0≤v):open_ (o.set b v)+1=open_ o:=by
 unfold open_
 have hb:=(List.getElem?_eq_some_iff.1 h)
 obtain⟨KT,kr⟩:=hb
 have pq:0<o.countP (fun d=>decide (d<0)):=List.countP_pos_iff.2 ⟨d,List.mem_of_getElem? h,decide_eq_true hd⟩
 rw [List.countP_set KT,kr,decide_eq_true hd]
 have:decide (v<0)=false:=decide_eq_false (by omega)
 simp [this]
 omega
theorem Yk {u:ak}(N:Nat) (hl:u.ae.length≤600) (y0:Nat) (i0:aq) (d0:Int) (qz:u.ae[y0]? =some i0) (gb:d0≤40):∀(l:List (Int×Int)) (out q:List Int),(∀x∈l,x∈jP u y0 i0)→(∀x∈l,0≤x.1∧x.1<(u.ae.length:Int))→DI u out q→out[y0]? =some d0→0≤d0→jo u y0 d0→q.length+open_ out≤700→
 (∃fM q',qB (fun(s:List Int×List Int×Bool×List Int) (x:Int×Int)=>rT N s.1 (y0:Int) u s.2.1 s.2.2.1 s.2.2.2 x.1 x.2 (fun f m0 m1 m2 m3=>some ((m0,m1,m2,m3),f))) l (out,[],false,q)=some ((fM,[],false,q'),.go)∧DI u fM q'∧Ext out fM∧(∀x∈l,fM[x.1.toNat]? =some (jR i0.aI d0 x.2)∧0≤jR i0.aI d0 x.2)∧(∃e,q'=q++e)∧q'.length+open_ fM=q.length+open_ out∧(∀(y:Nat) d,fM[y]? =some d→0≤d→out[y]? =some d∨(y:Int)∈q'))∨
 (∃fM q',qB (fun(s:List Int×List Int×Bool×List Int) (x:Int×Int)=>rT N s.1 (y0:Int) u s.2.1 s.2.2.1 s.2.2.2 x.1 x.2 (fun f m0 m1 m2 m3=>some ((m0,m1,m2,m3),f))) l (out,[],false,q)=some ((fM,[],false,q'),.ret)∧¬Good u)
 | [],out,q,_,_,I,_,_,_,_=>.inl ⟨out,q,rfl,I,Ext.refl _,fun x h=>(by cases h),⟨[],(List.append_nil _).symm⟩,rfl,fun y d h _=>.inl h⟩
 | x::l,out,q,ar,yt,I,ho,mS,hD,hm=>by
  have hx:=ar x List.mem_cons_self
  obtain⟨hx1,FO⟩:=yt x List.mem_cons_self
  have ahk:∀z∈l,z∈jP u y0 i0:=fun z hz=>ar z (List.mem_cons_of_mem _ hz)
  have ahl:∀z∈l,0≤z.1∧z.1<(u.ae.length:Int):=fun z hz=>yt z (List.mem_cons_of_mem _ hz)
  have fm:=avl i0.aI x.2
  have IX:jo u x.1.toNat (jR i0.aI d0 x.2):=jo.step y0 d0 i0 x hD qz hx
  obtain⟨b,hb⟩:=Int.eq_ofNat_of_zero_le hx1
  have rj:b<u.ae.length:=by omega
  have Yl:x.1.toNat=b:=by omega
  have hxb:x.1=(b:Int):=hb
  have body:∀j6:Fl→List Int→List Int→Bool→List Int→Option ((List Int×List Int×Bool×List Int)×Fl),rT N out (y0:Int) u [] false q x.1 x.2 j6=DE N out x.1 [] false q (jR i0.aI d0 x.2) (y0:Int) u j6:=fun j6=>by
   unfold rT
   rw [iB,ho,Option.bind_some,iB,qz,Option.bind_some,avk,Option.bind_some,jY (by omega) (by omega)]
   unfold jR
   by_cases h2:x.2=2
   · rw [decide_eq_true h2,if_pos h2];rfl
   · rw [decide_eq_false h2,if_neg h2];rfl
  have sR:b<out.length:=by rw [I.len];exact rj
  obtain⟨db,pO⟩:∃db,out[b]? =some db:=⟨_,List.getElem?_eq_getElem sR⟩
  unfold qB
  show(∃fM q',((rT N out (y0:Int) u [] false q x.1 x.2 (fun f m0 m1 m2 m3=>some ((m0,m1,m2,m3),f))).bind _)=_∧_)∨(∃fM q',((rT N out (y0:Int) u [] false q x.1 x.2 (fun f m0 m1 m2 m3=>some ((m0,m1,m2,m3),f))).bind _)=_∧_)
  rw [body]
  unfold DE IG
  rw [DW,Option.bind_some,hxb]
  generalize hv:jR i0.aI d0 x.2=v at IX
  rw [Yl]at IX
  by_cases hr:0≤v∧v≤40
  · rw [decide_eq_true hr,iB,pO]
    by_cases sS:0≤db
    · by_cases dr:db=v
      · -- told ayp, alike
        have ih:=Yk N hl y0 i0 d0 qz gb l out q ahk ahl I ho mS hD hm
        have e:(bif !true then(some (((out,([]:List Int),false,q):List Int×List Int×Bool×List Int),Fl.ret))else(some db).bind fun tu=>bif decide (0≤tu)then(some db).bind fun DF=>bif !decide (DF=v)then some ((out,[],false,q),Fl.ret)else(some db).bind fun tH=>bif decide (tH<0)then(some db).bind fun II=>gu (decide (q.length+[((b:Nat):Int)].length≤1048576)) (some ((out.set ((b:Nat):Int).toNat v,[],false,q++[((b:Nat):Int)]),Fl.go))else some ((out,[],false,q),Fl.go)else(some db).bind fun tH=>bif decide (tH<0)then(some db).bind fun II=>gu (decide (q.length+[((b:Nat):Int)].length≤1048576)) (some ((out.set ((b:Nat):Int).toNat v,[],false,q++[((b:Nat):Int)]),Fl.go))else some ((out,[],false,q),Fl.go))=some ((out,[],false,q),Fl.go):=by
         have bJ:¬db<0:=by omega
         simp [sS,dr,bJ]
         subst dr;simp [sS,bJ]
        rw [e]
        rcases ih with⟨o',q',h1,h2,h3,h4,h5,h6,h7⟩ | ⟨o',q',h1,h2⟩
        · refine .inl ⟨o',q',h1,h2,h3,fun z hz=> ?_,h5,h6,h7⟩
          rcases List.mem_cons.1 hz with rfl | hz
          · rw [Yl,hv];exact⟨h3 b v (dr▸pO) hr.1,hr.1⟩
          · exact h4 z hz
        · exact .inr ⟨o',q',h1,h2⟩
      · refine .inr ⟨out,q, ?_,fun G=> ?_⟩
        · simp [sS,dr]
        · rcases I.tP b db pO with e | ⟨_,_,vM⟩
          · omega
          · exact dr ((G b db vM).2 v IX)
    · -- told anx
      have bJ:db<0:=by omega
      have hq:q.length+1≤1048576:=by omega
      have I':DI u (out.set b v) (q++[(b:Int)]):=by
       refine⟨by simpa using I.len,fun y d h=> ?_,fun z hz=> ?_⟩
       · rw [List.getElem?_set]at h
         by_cases e:b=y
         · subst e;rw [if_pos rfl,if_pos sR]at h;cases h;exact .inr ⟨hr.1,hr.2,IX⟩
         · rw [if_neg e]at h;exact I.tP y d h
       · rcases List.mem_append.1 hz with hz | hz
         · obtain⟨y,d,h1,h2,h3⟩:=I.Yj z hz
           refine⟨y,d,h1, ?_,h3⟩
           rw [List.getElem?_set,if_neg]
           · exact h2
           · intro e;subst e;rw [pO]at h2;cases h2;omega
         · rw [List.mem_singleton]at hz
           exact⟨b,v,hz,by rw [List.getElem?_set,if_pos rfl,if_pos sR],hr.1⟩
      have avm:b≠y0:=fun e=>by subst e;rw [ho]at pO;cases pO;omega
      have ho':(out.set b v)[y0]? =some d0:=by rw [List.getElem?_set,if_neg avm];exact ho
      have hos:=ahj pO bJ hr.1
      have ih:=Yk N hl y0 i0 d0 qz gb l (out.set b v) (q++[(b:Int)]) ahk ahl I' ho' mS hD (by rw [List.length_append];simp;omega)
      have avn:Ext out (out.set b v):=fun y d h h0=>by
       rw [List.getElem?_set,if_neg]
       · exact h
       · intro e;subst e;rw [pO]at h;cases h;omega
      have hgu:decide (q.length+1≤1048576)=true:=decide_eq_true hq
      have e:(bif !true then(some (((out,([]:List Int),false,q):List Int×List Int×Bool×List Int),Fl.ret))else(some db).bind fun tu=>bif decide (0≤tu)then(some db).bind fun DF=>bif !decide (DF=v)then some ((out,[],false,q),Fl.ret)else(some db).bind fun tH=>bif decide (tH<0)then(some db).bind fun II=>gu (decide (q.length+[((b:Nat):Int)].length≤1048576)) (some ((out.set ((b:Nat):Int).toNat v,[],false,q++[((b:Nat):Int)]),Fl.go))else some ((out,[],false,q),Fl.go)else(some db).bind fun tH=>bif decide (tH<0)then(some db).bind fun II=>gu (decide (q.length+[((b:Nat):Int)].length≤1048576)) (some ((out.set ((b:Nat):Int).toNat v,[],false,q++[((b:Nat):Int)]),Fl.go))else some ((out,[],false,q),Fl.go))=some ((out.set b v,[],false,q++[(b:Int)]),Fl.go):=by
       simp [sS,bJ,gu,hq]
      rw [e]
      rcases ih with⟨o',q',h1,h2,h3,h4,⟨e',h5⟩,h6,h7⟩ | ⟨o',q',h1,h2⟩
      · refine .inl ⟨o',q',h1,h2,avn.trans h3,fun z hz=> ?_,⟨(b:Int)::e',by rw [h5,List.append_assoc];rfl⟩, ?_,fun y d h h0=> ?_⟩
        · rcases List.mem_cons.1 hz with rfl | hz
          · rw [Yl,hv];exact⟨h3 b v (by rw [List.getElem?_set,if_pos rfl,if_pos sR]) hr.1,hr.1⟩
          · exact h4 z hz
        · rw [h6,List.length_append];simp;omega
        · rcases h7 y d h h0 with h8 | h8
          · by_cases e:b=y
            · subst e;exact .inr (by rw [h5];simp)
            · rw [List.getElem?_set,if_neg e]at h8;exact .inl h8
          · exact .inr h8
      · exact .inr ⟨o',q',h1,h2⟩
  · rw [decide_eq_false hr]
    exact .inr ⟨out,q,rfl,fun G=>hr (G b v IX).1⟩
end
end Go.Ve.T
namespace Go.Ve.T
open Go.Ve
noncomputable section
open Classical
theorem ahm {u:ak}(U:fq u) (N:Nat) (hN:1000≤N):∀(n:Nat) (out q:List Int),DI u out q→(∀(y:Nat) d,out[y]? =some d→0≤d→(y:Int)∈q∨tQ u out y)→out[0]? =some 0→q.length+open_ out≤700→q.length+open_ out<n→
    (∃fM,vH N u n out [] false q=some (fM,true)∧DI u fM []∧(∀(y:Nat) d,fM[y]? =some d→0≤d→tQ u fM y)∧fM[0]? =some 0)∨(vH N u n out [] false q=some ([],false)∧¬Good u)
  | 0,out,q,_,_,_,_,h=>by omega
  | n+1,out,[],I,C,h0,h1,h2=>.inl ⟨out,rfl,I,fun y d h hd=>(C y d h hd).elim (fun h=>by cases h) id,h0⟩
  | n+1,out,x::t,I,C,h0,h1,h2=>by
    obtain⟨y0,d0,rfl,ho,mS⟩:=I.Yj x List.mem_cons_self
    have hy0:y0<u.ae.length:=by rw [←I.len];exact(List.getElem?_eq_some_iff.1 ho).1
    obtain⟨gb,hD⟩:d0≤40∧jo u y0 d0:=by
      rcases I.tP y0 d0 ho with e | ⟨_,h4,h5⟩
      · omega
      · exact⟨h4,h5⟩
    have qz:u.ae[y0]? =some u.ae[y0]:=List.getElem?_eq_getElem hy0
    have F:=Yk N U.n1.2.1 y0 u.ae[y0] d0 qz gb (jP u y0 u.ae[y0]) out ((y0:Int)::t) (fun _ h=>h) (fun x hx=>Ym U qz hx) I ho mS hD h1
    have unf:vH N u (n+1) out [] false ((y0:Int)::t)=((qB (fun(s:List Int×List Int×Bool×List Int) (x:Int×Int)=>rT N s.1 (y0:Int) u s.2.1 s.2.2.1 s.2.2.2 x.1 x.2 (fun f m0 m1 m2 m3=>some ((m0,m1,m2,m3),f))) (jP u y0 u.ae[y0]) (out,[],false,(y0:Int)::t)).bind fun mF=>GB mF.2 (IJ N mF.1.2.2.2 u mF.1.1 mF.1.2.1 mF.1.2.2.1 (fun ag bo qH qI=>vH N u n bo qH qI ag)) (some (mF.1.2.1,mF.1.2.2.1)) (fun _=>none)):=by
      show(bif decide (0<((((y0:Int)::t).length:Nat):Int))then IK N ((y0:Int)::t) u out [] false _ else _)=_
      rw [decide_eq_true (by rw [List.length_cons];omega),cond_true]
      unfold IK
      rw [show ix ((y0:Int)::t) 0=some (y0:Int)from rfl,Option.bind_some,ahn U N hN y0 hy0];rfl
    rw [unf]
    rcases F with⟨o',q',f1,f2,f3,f4,⟨e,f5⟩,f6,f7⟩ | ⟨o',q',f1,f2⟩
    · rw [f1]
      simp only [Option.bind_some,GB]
      unfold IJ
      have es:GA q' 1 (q'.length:Int)=some (t++e):=by
        unfold GA
        rw [f5,List.cons_append]
        have:(decide ((0:Int)≤1)&&decide ((1:Int)≤((((y0:Int)::(t++e)).length:Nat):Int))&&decide (((((y0:Int)::(t++e)).length:Nat):Int)≤((((y0:Int)::(t++e)).length:Nat):Int)))=true:=by
          rw [List.length_cons];simp;omega
        rw [this]
        show some ((((y0:Int)::(t++e)).take (((((y0:Int)::(t++e)).length:Nat):Int)).toNat).drop 1)=_
        rw [Int.toNat_natCast,List.take_length];rfl
      rw [es,Option.bind_some]
      have avo:tQ u o' y0:=fun d i h hi z hz=>by
        have:o'[y0]? =some d0:=f3 y0 d0 ho mS
        rw [this]at h;cases h
        rw [qz]at hi;cases hi
        exact f4 z hz
      refine ahm U N hN n o' (t++e) ⟨f2.len,f2.tP,fun z hz=>f2.Yj z (by rw [f5];exact List.mem_cons_of_mem _ hz)⟩ (fun y d h hd=> ?_) (f3 0 0 h0 (Int.le_refl 0)) ?_ ?_
      · have key:(y:Int)∈q'→(y:Int)∈t++e∨tQ u o' y:=fun hq=>by
          rw [f5,List.cons_append]at hq
          rcases List.mem_cons.1 hq with e1 | hq
          · have:y=y0:=by omega
            subst this;exact .inr avo
          · exact .inl hq
        rcases f7 y d h hd with h8 | h8
        · rcases C y d h8 hd with h9 | h9
          · exact key (by rw [f5];exact List.mem_append_left _ h9)
          · refine .inr fun d' i' h' dK z hz=> ?_
            rw [h]at h';cases h'
            obtain⟨g1,g2⟩:=h9 d i' h8 dK z hz
            exact⟨f3 _ _ g1 g2,g2⟩
        · exact key h8
      · have:q'.length=(t++e).length+1:=by rw [f5];rfl
        rw [List.length_cons]at f6 h1;omega
      · have:q'.length=(t++e).length+1:=by rw [f5];rfl
        rw [List.length_cons]at f6 h2;omega
    · rw [f1]
      exact .inr ⟨rfl,f2⟩
def DZ (u:ak) (out:List Int):Prop:=out.length=u.ae.length∧∀(y:Nat) d,out[y]? =some d→(d= -1∧∀d',¬jo u y d')∨(0≤d∧d≤40∧jo u y d)
theorem Yn {u:ak}{out:List Int}(C:∀(y:Nat) d,out[y]? =some d→0≤d→tQ u out y) (h0:out[0]? =some 0){y:Nat}{d:Int}(H:jo u y d):out[y]? =some d∧0≤d:=by
 induction H with
 | start=>exact⟨h0,Int.le_refl 0⟩
 | step y d i x H hi hx ih=>exact C y d ih.1 ih.2 d i ih.1 hi x hx
theorem aho {u:ak}{out:List Int}(len:out.length=u.ae.length) (V:∀(y:Nat) d,out[y]? =some d→d= -1∨(0≤d∧d≤40∧jo u y d)) (C:∀(y:Nat) d,out[y]? =some d→0≤d→tQ u out y) (h0:out[0]? =some 0):DZ u out∧Good u:=by
 refine⟨⟨len,fun y d h=> ?_⟩,fun y d H=> ?_⟩
 · rcases V y d h with e | h2
   · refine .inl ⟨e,fun d' H=> ?_⟩
     have:=Yn C h0 H
     rw [h]at this
     have h3:=this.1;cases h3
     omega
   · exact .inr h2
 · have hd:=Yn C h0 H
   refine⟨?_,fun d' H'=> ?_⟩
   · rcases V y d hd.1 with e | h2
     · have:=hd.2;omega
     · exact⟨h2.1,h2.2.1⟩
   · have:=Yn C h0 H'
     rw [hd.1]at this
     have h3:=this.1;cases h3;rfl
theorem avp {u:ak}(U:fq u) (N:Nat) (hN:1000≤N) :
 (∃out,Bh N u=some (out,true)∧DZ u out∧Good u)∨(Bh N u=some ([],false)∧¬Good u):=by
 have hl:=U.n1.2.1
 have h1:=U.n1.1
 have e:Bh N u=vH N u N ((List.replicate u.ae.length (-1)).set 0 0) [] false [0]:=by
  unfold Bh Oe
  have:(decide (1≤(u.ae.length:Int))&&decide ((u.ae.length:Int)≤65536))=true:=by simp;omega
  rw [this]
  show(ix (List.replicate u.ae.length (-1)) ((0:Nat):Int)).bind _=_
  rw [iB,List.getElem?_replicate,if_pos (by omega)];rfl
 rw [e]
 have Cu:∀(y:Nat) d,((List.replicate u.ae.length (-1:Int)).set 0 0)[y]? =some d→(y=0∧d=0)∨d= -1:=fun y d h=>by
  rw [List.getElem?_set]at h
  by_cases hy:0=y
  · subst hy
    rw [if_pos rfl,List.length_replicate,if_pos (by omega)]at h
    cases h;exact .inl ⟨rfl,rfl⟩
  · rw [if_neg hy,List.getElem?_replicate]at h
    split at h
    · cases h;exact .inr rfl
    · cases h
 have Cf:((List.replicate u.ae.length (-1:Int)).set 0 0)[0]? =some 0:=by
  rw [List.getElem?_set,if_pos rfl,List.length_replicate,if_pos (by omega)]
 have aY:open_ ((List.replicate u.ae.length (-1:Int)).set 0 0)≤u.ae.length:=by
  unfold open_
  refine Nat.le_trans List.countP_le_length ?_
  simp
 have L:=ahm U N hN N ((List.replicate u.ae.length (-1)).set 0 0) [0] ⟨by simp,fun y d h=>by
  rcases Cu y d h with⟨rfl,rfl⟩ | e
  · exact .inr ⟨Int.le_refl 0,by omega,jo.start⟩
  · exact .inl e,fun x hx=>⟨0,0,by rw [List.mem_singleton]at hx;exact hx,Cf,Int.le_refl 0⟩⟩ (fun y d h hd=>by
  rcases Cu y d h with⟨rfl,rfl⟩ | e
  · exact .inl (by simp)
  · omega) Cf (by show 1+_≤700;omega) (by show 1+_<N;omega)
 rcases L with⟨out,e1,I,C,h0⟩ | ⟨e1,nG⟩
 · obtain⟨D,G⟩:=aho I.len I.tP C h0
   exact .inl ⟨out,e1,D,G⟩
 · exact .inr ⟨e1,nG⟩
end
end Go.Ve.T
namespace Go.Ve.T
open Go.Ve
open Classical
noncomputable section
inductive r9 (u:ak):Nat→Int→Prop where
 | read {y:Nat}{i:aq}{s:Int}(hi:u.ae[y]? =some i) (hs:s∈jx i):r9 u y s
 | lead {y:Nat}{i:aq}{x:Int×Int}{s:Int}(hi:u.ae[y]? =some i) (hx:x∈jP u y i) (hw:x.2=2∨s≠iW i) (hs:r9 u x.1.toNat s):r9 u y s
theorem Oz (i:aq):(jx i).length≤2:=by
 unfold jx
 rw [List.length_append]
 have h1:(if 0<(dM i.aI).dY.e0∧lM i (dM i.aI).dY.e0≠-1 then [lM i (dM i.aI).dY.e0]else []).length≤1:=by split<;>simp
 have h2:(if 0<(dM i.aI).dY.e1∧lM i (dM i.aI).dY.e1≠-1 then [lM i (dM i.aI).dY.e1]else []).length≤1:=by split<;>simp
 omega
def univ (u:ak):List Int:=u.ae.foldr (fun i s=>fS (jx i) s) []
theorem ahp (x:Int):∀l:List Int,(k9 x l).length≤l.length+1
 | []=>by simp [k9]
 | y::l=>by
  unfold k9
  cases decide (x<y)with
  | true=>simp
  | false=>cases decide (x=y)with
   | true=>simp
   | false=>have:=ahp x l;simp;omega
theorem ahq:∀(xs l:List Int),(fS xs l).length≤l.length+xs.length
 | [],l=>by simp [fS]
 | x::xs,l=>by
  have h1:=ahq xs (k9 x l)
  have h2:=ahp x l
  show(fS xs (k9 x l)).length≤_
  simp;omega
theorem yu:∀c:List aq,eA (c.foldr (fun i s=>fS (jx i) s) [])∧(c.foldr (fun i s=>fS (jx i) s) []).length≤2*c.length∧∀i∈c,∀s∈jx i,s∈c.foldr (fun i s=>fS (jx i) s) []
 | []=>⟨.nil,Nat.le_refl _,fun i h=>by cases h⟩
 | i::c=>by
  obtain⟨h1,h2,h3⟩:=yu c
  refine⟨ry h1, ?_,fun j hj s hs=>pG.2 ?_⟩
  · have h4:=ahq (jx i) (c.foldr (fun i s=>fS (jx i) s) [])
    have h5:=Oz i
    show(fS (jx i) _).length≤_
    simp;omega
  · rcases List.mem_cons.1 hj with rfl | hj
    · exact .inl hs
    · exact .inr (h3 j hj s hs)
theorem r9.univ {u:ak}{y:Nat}{s:Int}(h:r9 u y s):s∈univ u:=by
 induction h with
 | read hi hs=>exact(yu u.ae).2.2 _ (List.mem_of_getElem? hi) _ hs
 | lead hi hx hw hs ih=>exact ih
def yw (u:ak) (y:Nat):List Int:=(univ u).filter fun s=>decide (r9 u y s)
theorem ahr {u:ak}{y:Nat}{s:Int}:s∈yw u y↔r9 u y s:=by
 unfold yw
 rw [List.mem_filter]
 exact⟨fun h=>of_decide_eq_true h.2,fun h=>⟨h.univ,decide_eq_true h⟩⟩
theorem ahs (u:ak) (y:Nat):eA (yw u y):=(yu u.ae).1.filter _
theorem avq (u:ak) (y:Nat):(yw u y).length≤2*u.ae.length:=Nat.le_trans (List.length_filter_le _ _) (yu u.ae).2.1
def oX (u:ak):List (List Int):=(List.range u.ae.length).map (yw u)
theorem aht {u:ak}{y:Nat}(h:y<u.ae.length):(oX u)[y]? =some (yw u y):=by unfold oX;rw [List.getElem?_map,List.getElem?_range h];rfl
theorem OA (u:ak):(oX u).length=u.ae.length:=by unfold oX;simp
theorem Yo {l m:List Int}(hl:eA l) (hm:eA m) (h:∀x∈l,x∈m):l.length≤m.length∧(l.length=m.length→l=m):=by
 have e:l=m.filter fun x=>decide (x∈l):=eA.ext hl (hm.filter _) fun x=>by
  rw [List.mem_filter]
  exact⟨fun hx=>⟨h x hx,decide_eq_true hx⟩,fun hx=>of_decide_eq_true hx.2⟩
 have h1:=List.length_filter_le (fun x=>decide (x∈l)) m
 rw [←e]at h1
 refine⟨h1,fun hq=>eA.ext hl hm fun x=>⟨h x,fun hx=> ?_⟩⟩
 rw [e]at hq
 exact of_decide_eq_true (List.length_filter_eq_length_iff.1 hq x hx)
def lr (u:ak) (a:List (List Int)) (y:Nat) (i:aq):List Int:=fS (jx i) ((jP u y i).foldl (fun s x=>fS (nw (iW i) x.2 (a.getD x.1.toNat [])) s) [])
theorem avr {w k:Int}{t:List Int}{s:Int}:s∈nw w k t↔s∈t∧(k=2∨s≠w):=by
 unfold nw
 rw [List.mem_filter]
 by_cases h1:k=2<;>by_cases h2:s=w<;>simp [h1,h2]
theorem Yp (w:Int) (a:List (List Int)):∀(l:List (Int×Int)) (s:List Int),eA s→eA (l.foldl (fun s x=>fS (nw w x.2 (a.getD x.1.toNat [])) s) s)∧∀z,z∈l.foldl (fun s x=>fS (nw w x.2 (a.getD x.1.toNat [])) s) s↔z∈s∨∃x∈l,z∈a.getD x.1.toNat []∧(x.2=2∨z≠w)
 | [],s,h=>⟨h,fun z=>by simp⟩
 | x::l,s,h=>by
  obtain⟨h1,h2⟩:=Yp w a l (fS (nw w x.2 (a.getD x.1.toNat [])) s) (ry h)
  refine⟨h1,fun z=> ?_⟩
  rw [List.foldl_cons,h2,pG,avr]
  constructor
  · rintro((h | h) | ⟨x',h,h'⟩)
    · exact .inr ⟨x,List.mem_cons_self,h⟩
    · exact .inl h
    · exact .inr ⟨x',List.mem_cons_of_mem _ h,h'⟩
  · rintro(h | ⟨x',h,h'⟩)
    · exact .inl (.inr h)
    · rcases List.mem_cons.1 h with rfl | h
      · exact .inl (.inl h')
      · exact .inr ⟨x',h,h'⟩
theorem ahu (u:ak) (a:List (List Int)) (y:Nat) (i:aq):eA (lr u a y i):=ry (Yp _ _ _ _ .nil).1
theorem sa {u:ak}{a:List (List Int)}{y:Nat}{i:aq}{s:Int}:s∈lr u a y i↔s∈jx i∨∃x∈jP u y i,s∈a.getD x.1.toNat []∧(x.2=2∨s≠iW i):=by
 unfold lr
 rw [pG,(Yp _ _ _ _ .nil).2]
 simp
def iJ (a:List (List Int)):Nat:=(a.map List.length).sum
theorem Yq:∀{a:List (List Int)}{y:Nat}{l:List Int},y<a.length→iJ (a.set y l)+(a.getD y []).length=iJ a+l.length
 | [],y,l,h=>by simp at h
 | b::a,0,l,h=>by simp [iJ];omega
 | b::a,y+1,l,h=>by
  have:=Yq (a:=a) (y:=y) (l:=l) (by simpa using h)
  simp [iJ]at this ⊢
  omega
theorem Yr {m:Nat}:∀{a:List (List Int)},(∀l∈a,l.length≤m)→iJ a≤a.length*m
 | [],_=>by simp [iJ]
 | b::a,h=>by
  have h1:=Yr (a:=a) fun l hl=>h l (List.mem_cons_of_mem _ hl)
  have h2:=h b List.mem_cons_self
  simp [iJ]at h1 ⊢
  rw [Nat.add_mul]
  omega
theorem uP (a:List (List Int)) (y z:Nat) (l:List Int) (hy:y<a.length):(a.set y l).getD z []=if y=z then l else a.getD z []:=by
 rw [List.getD_eq_getElem?_getD,List.getElem?_set,List.getD_eq_getElem?_getD]
 by_cases h:y=z
 · subst h;simp [hy]
 · simp [h]
structure LI (u:ak) (a:List (List Int)):Prop where
 len:a.length=u.ae.length
 snd:∀y s,s∈a.getD y []→r9 u y s
 grow:∀y i,u.ae[y]? =some i→∀s∈a.getD y [],s∈lr u a y i
theorem LI.nd {u:ak}{a:List (List Int)}(H:LI u a){y:Nat}{i:aq}(hi:u.ae[y]? =some i){s:Int}(hs:s∈lr u a y i):r9 u y s:=by
 rcases sa.1 hs with h | ⟨x,h1,h2,h3⟩
 · exact .read hi h
 · exact .lead hi h1 h3 (H.snd _ _ h2)
theorem LI.set {u:ak}{a:List (List Int)}(H:LI u a){y:Nat}{i:aq}(hi:u.ae[y]? =some i){l:List Int}(hl:∀s,s∈l↔s∈lr u a y i):LI u (a.set y l):=by
 have hy:y<a.length:=by rw [H.len];exact(List.getElem?_eq_some_iff.1 hi).1
 have mono:∀z s,s∈a.getD z []→s∈(a.set y l).getD z []:=fun z s hs=>by
  rw [uP a y z l hy]
  by_cases h:y=z
  · subst h;rw [if_pos rfl,hl];exact H.grow _ _ hi s hs
  · rw [if_neg h];exact hs
 have up:∀z j s,s∈lr u a z j→s∈lr u (a.set y l) z j:=fun z j s hs=>by
  rcases sa.1 hs with h | ⟨x,h1,h2,h3⟩
  · exact sa.2 (.inl h)
  · exact sa.2 (.inr ⟨x,h1,mono _ _ h2,h3⟩)
 refine⟨by simpa using H.len,fun z s hs=> ?_,fun z j hj s hs=> ?_⟩
 · rw [uP a y z l hy]at hs
   by_cases h:y=z
   · subst h;rw [if_pos rfl,hl]at hs;exact H.nd hi hs
   · rw [if_neg h]at hs;exact H.snd _ _ hs
 · rw [uP a y z l hy]at hs
   by_cases h:y=z
   · subst h
     rw [if_pos rfl,hl]at hs
     rw [hi]at hj;cases hj
     exact up _ _ _ hs
   · rw [if_neg h]at hs;exact up _ _ _ (H.grow _ _ hj s hs)
theorem LI.fin {u:ak}(U:fq u){a:List (List Int)}(H:LI u a) (C:∀y i,u.ae[y]? =some i→∀s∈lr u a y i,s∈a.getD y []):∀y s,s∈a.getD y []↔r9 u y s:=fun y s=>by
 refine⟨H.snd y s,fun h=> ?_⟩
 induction h with
 | read hi hs=>exact C _ _ hi _ (sa.2 (.inl hs))
 | lead hi hx hw hs ih=>exact C _ _ hi _ (sa.2 (.inr ⟨_,hx,ih,hw⟩))
theorem LI.eq {u:ak}(U:fq u){a:List (List Int)}(H:LI u a) (S:∀l∈a,eA l) (C:∀y i,u.ae[y]? =some i→∀s∈lr u a y i,s∈a.getD y []):a=oX u:=by
 have F:=H.fin U C
 refine List.ext_getElem? fun y=> ?_
 by_cases hy:y<u.ae.length
 · have Ys:y<a.length:=by rw [H.len];exact hy
   rw [aht hy,List.getElem?_eq_getElem Ys]
   refine congrArg some (eA.ext (S _ (List.getElem_mem Ys)) (ahs u y) fun s=> ?_)
   rw [ahr,←F y s,List.getD_eq_getElem?_getD,List.getElem?_eq_getElem Ys];rfl
 · rw [List.getElem?_eq_none (by rw [H.len];omega),List.getElem?_eq_none (by rw [OA];omega)]
theorem LI.start (u:ak):LI u (List.replicate u.ae.length []):=by
 have h:∀y,(List.replicate u.ae.length ([]:List Int)).getD y []=[]:=fun y=>by
  rw [List.getD_eq_getElem?_getD,List.getElem?_replicate]
  split<;>rfl
 exact⟨by simp,fun y s hs=>(by rw [h]at hs;cases hs),fun y i _ s hs=>(by rw [h]at hs;cases hs)⟩
end
end Go.Ve.T
namespace Go.Ve.T
open Go.Ve
open Classical
noncomputable section
theorem tR {a:List (List Int)}{k:Nat}(h:k<a.length):ix a (k:Int)=some (a.getD k []):=by
 rw [iB,List.getElem?_eq_getElem h,List.getD_eq_getElem?_getD,List.getElem?_eq_getElem h];rfl
theorem avs {u:ak}(U:fq u) (N:Nat) (hN:1000≤N){y:Nat}(hy:y<u.ae.length) (a:List (List Int)) (ha:a.length=u.ae.length):IQ N u (y:Int) a=some (lr u a y u.ae[y]):=by
 have hi:u.ae[y]? =some u.ae[y]:=List.getElem?_eq_getElem hy
 unfold IQ
 rw [ahn U N hN y hy,Option.bind_some,iB,hi,Option.bind_some]
 rw [ahv _ (fun(s:List Int) (x:Int×Int)=>fS (nw (iW u.ae[y]) x.2 (a.getD x.1.toNat [])) s) (jP u y u.ae[y]) (fun _ _=>True) (fun n s x hx _=>by
  have h1:=Ym U hi hx
  obtain⟨k,hk⟩:=Int.eq_ofNat_of_zero_le h1.1
  rw [hk]at h1
  unfold IW
  rw [hk,tR (by omega),Int.toNat_natCast,Option.bind_some,avt]
  exact⟨rfl,trivial⟩) _ _ (fun x hx=>hx) trivial,Option.bind_some,avu N hN,Option.bind_some,decide_eq_true (show(jx u.ae[y]).length≤1000 by have:=Oz u.ae[y];omega)]
 rfl
structure LS (u:ak) (a:List (List Int)):Prop where
 li:LI u a
 nV:∀l∈a,eA l
theorem LS.at {u:ak}{a:List (List Int)}(H:LS u a) (y:Nat):eA (a.getD y []):=by
 rw [List.getD_eq_getElem?_getD]
 cases h:a[y]? with
 | none=>exact .nil
 | some l=>exact H.nV l (List.mem_of_getElem? h)
theorem LI.IY {u:ak}{a:List (List Int)}(H:LI u a){l:List Int}(hl:l∈a) (S:eA l):l.length≤2*u.ae.length:=by
 obtain⟨k,hk⟩:=List.getElem?_of_mem hl
 refine Nat.le_trans (Yo S (yu u.ae).1 fun s hs=> ?_).1 (yu u.ae).2.1
 exact(H.snd k s (by rw [List.getD_eq_getElem?_getD,hk];exact hs)).univ
theorem LS.iJ {u:ak}{a:List (List Int)}(H:LS u a):iJ a≤u.ae.length*(2*u.ae.length):=by
 have:=Yr (m:=2*u.ae.length) fun l hl=>H.li.IY hl (H.nV l hl)
 rwa [H.li.len]at this
theorem Yt {u:ak}(U:fq u) (N:Nat) (hN:1000≤N) (K:Bool→List (List Int)→Option (List (List Int))):∀(m n:Nat) (a:List (List Int)) (c:Bool),LS u a→m≤u.ae.length→m<n→
 ∃a' c',yi N u K n a c ((m:Int)-1)=K c' a'∧LS u a'∧iJ a≤iJ a'∧(c'=true→c=true∨iJ a<iJ a')∧(c'=false→c=false∧a'=a∧∀y i,y<m→u.ae[y]? =some i→∀s∈lr u a y i,s∈a.getD y [])
 | m,0,a,c,_,_,h=>by omega
 | 0,n+1,a,c,H,_,_=>⟨a,c,by
  show Bi N u a c _ K _=_
  unfold Bi
  rw [decide_eq_false (by omega)];rfl,H,Nat.le_refl _,.inl,fun h=>⟨h,rfl,fun y i h=>by omega⟩⟩
 | m+1,n+1,a,c,H,hm,hn=>by
  have kX:=U.n1
  have hy:m<u.ae.length:=by omega
  have hi:u.ae[m]? =some u.ae[m]:=List.getElem?_eq_getElem hy
  have zY:m<a.length:=by rw [H.li.len];exact hy
  have e:yi N u K (n+1) a c (((m+1:Nat):Int)-1)=if (lr u a m u.ae[m]).length=(a.getD m []).length then yi N u K n a c ((m:Int)-1)else yi N u K n (a.set m (lr u a m u.ae[m])) true ((m:Int)-1):=by
   show Bi N u a c _ K _=_
   unfold Bi On IP
   rw [show(((m+1:Nat):Int)-1)=(m:Int) by omega,decide_eq_true (by omega),avs U N hN hy a H.li.len,tR zY,jY (by omega) (by omega)]
   simp only [cond_true,Option.bind_some,Int.toNat_natCast]
   by_cases h:(lr u a m u.ae[m]).length=(a.getD m []).length
   · rw [if_pos h,decide_eq_true (by omega)];rfl
   · rw [if_neg h,decide_eq_false (by omega)];rfl
  rw [e]
  have sub:=Yo (H.at m) (ahu u a m u.ae[m]) (H.li.grow m _ hi)
  by_cases h:(lr u a m u.ae[m]).length=(a.getD m []).length
  · rw [if_pos h]
    obtain⟨a',c',h1,h2,h3,h4,h5⟩:=Yt U N hN K m n a c H (by omega) (by omega)
    refine⟨a',c',h1,h2,h3,h4,fun hc=> ?_⟩
    obtain⟨h6,h7,h8⟩:=h5 hc
    refine⟨h6,h7,fun y i hy' dK s hs=> ?_⟩
    by_cases Gf:y=m
    · subst Gf
      rw [hi]at dK;cases dK
      rw [sub.2 h.symm];exact hs
    · exact h8 y i (by omega) dK s hs
  · rw [if_neg h]
    have H':LS u (a.set m (lr u a m u.ae[m])):=⟨H.li.set hi fun s=>Iff.rfl,fun l hl=>by
     rcases List.mem_or_eq_of_mem_set hl with hl | rfl
     · exact H.nV l hl
     · exact ahu _ _ _ _⟩
    have ht:=Yq (a:=a) (y:=m) (l:=lr u a m u.ae[m]) zY
    have bJ:=sub.1
    obtain⟨a',c',h1,h2,h3,h4,h5⟩:=Yt U N hN K m n _ true H' (by omega) (by omega)
    exact⟨a',c',h1,h2,by omega,fun _=>.inr (by omega),fun hc=>by have:=(h5 hc).1;cases this⟩
theorem avv (N:Nat) (a:List (List Int)) (ha:a.length≤600) (hN:1000≤N) (hl:∀l∈a,l.length≤2000):Ol N a (fun a0=>DP a0)=some a:=by
 have key:∀(n i:Nat),i≤a.length→a.length<n+i→DN N (a.length:Int) a (fun a0=>DP a0) n (a.take i) (i:Int)=some a:=by
  intro n
  induction n with
  | zero=>intro i h1 h2;omega
  | succ n ih =>
   intro i h1 h2
   show IN N _ a _ (a.take i) (i:Int) _=_
   unfold IN Oi Oh Oj
   by_cases hi:i<a.length
   · have h3:=hl a[i] (List.getElem_mem hi)
     rw [yx i _ hi,iB,List.getElem?_eq_getElem hi]
     simp only [cond_true,Option.bind_some]
     unfold DP
     rw [decide_eq_true (show a[i].length≤1048576 by omega)]
     show gu (decide ((a.take i).length+[a[i]].length≤1048576)) _=_
     rw [decide_eq_true (by rw [List.length_take];simp;omega),vN i (by omega)]
     show DN N _ a _ n (a.take i++[a[i]]) _=_
     rw [←List.take_succ_eq_append_getElem hi]
     exact ih (i+1) hi (by omega)
   · have:i=a.length:=by omega
     subst this
     rw [vO,List.take_length];rfl
 have:=key N 0 (Nat.zero_le _) (by omega)
 exact this
theorem ahw {u:ak}(U:fq u) (N:Nat) (hN:1000≤N):∀(n:Nat) (a:List (List Int)),LS u a→u.ae.length*(2*u.ae.length)+2≤n+iJ a→yj N u n a true=some (oX u)
 | 0,a,H,h=>by have:=H.iJ;omega
 | n+1,a,H,h=>by
  have hn:=U.n1
  show IS N u a (fun ag bo=>yj N u n bo ag)=_
  unfold IS
  rw [jY (by omega) (by omega)]
  obtain⟨a',c',h1,h2,h3,h4,h5⟩:=Yt U N hN (fun ag bo=>yj N u n bo ag) u.ae.length N a false H (Nat.le_refl _) (by omega)
  rw [h1]
  have ht:=H.iJ
  cases c' with
  | true =>
   have h6:iJ a<iJ a':=(h4 rfl).resolve_left (by simp)
   exact ahw U N hN n a' h2 (by omega)
  | false =>
   obtain⟨_,rfl,h8⟩:=h5 rfl
   obtain⟨m,rfl⟩:∃m,n=m+1:=⟨n-1,by omega⟩
   show IT N a'=_
   unfold IT
   have e:a'=oX u:=H.li.eq U H.nV fun y i hi s hs=>h8 y i (List.getElem?_eq_some_iff.1 hi).1 hi s hs
   rw [avv N a' (by rw [H.li.len];omega) hN fun l hl=>by have:=H.li.IY hl (H.nV l hl);omega,e]
   rfl
theorem avw {u:ak}(U:fq u) (N:Nat) (hN:1000≤N) (hb:u.ae.length*(2*u.ae.length)+2≤N):zO N u=some (oX u):=by
 have hn:=U.n1
 unfold zO Oo
 rw [Ow N hN,U.pl,Option.bind_some]
 show gu (decide _&&decide _) _=_
 rw [decide_eq_true (show(0:Int)≤(u.ae.length:Int) by omega),decide_eq_true (show(u.ae.length:Int)≤65536 by omega)]
 show yj N u N (List.replicate (u.ae.length:Int).toNat ([]:List Int)) true=_
 rw [Int.toNat_natCast]
 exact ahw U N hN N _ ⟨LI.start u,fun l hl=>by rw [List.eq_of_mem_replicate hl];exact .nil⟩ (by omega)
end
end Go.Ve.T
namespace Go.Ve.T
open Go.Ve
open Classical
noncomputable section
theorem OC {σ α β:Type}(I:Nat→σ→Int→Option β) (l:List α) (f:σ→α→σ) (s0:σ) (F:σ→Option β)
 (step:∀n (i:Nat) s a,l[i]? =some a→s=(l.take i).foldl f s0→I (n+1) s (i:Int)=I n (f s a) (((i+1:Nat)):Int)) (stop:∀n s,I (n+1) s (l.length:Int)=F s) (N:Nat) (hN:l.length<N):I N s0 0=F (l.foldl f s0):=by
 have key:∀n (i:Nat),i≤l.length→l.length<n+i→I n ((l.take i).foldl f s0) (i:Int)=F (l.foldl f s0):=by
  intro n
  induction n with
  | zero=>intro i h1 h2;omega
  | succ n ih =>
   intro i h1 h2
   by_cases hi:i<l.length
   · have hh:l[i]? =some l[i]:=List.getElem?_eq_getElem hi
     rw [step n i _ l[i] hh rfl]
     have:=ih (i+1) hi (by omega)
     rw [List.take_succ_eq_append_getElem hi,List.foldl_append]at this
     exact this
   · have:i=l.length:=by omega
     subst this
     rw [stop,List.take_length]
 exact key N 0 (Nat.zero_le _) (by omega)
theorem Yz (p:List Int) (x:Int) (t:List Int):ix (p++x::t) (p.length:Int)=some x:=by
 rw [iB];simp
theorem YA {p q:List Int}:eA (p++q)↔eA p∧eA q∧∀a∈p,∀b∈q,a<b:=by unfold eA;rw [List.pairwise_append]
theorem ahE (N:Nat) (y4:Int) (K:Int→List Int→Option (List Int)):∀(n:Nat) (p:List Int) (x:Int) (q r:List Int),p.length<n→p.length≤5000→eA (p++q)→(∀z∈q,x<z)→x∉p→
 ∃s,H5 N y4 K n (p++x::(q++r)) (p.length:Int)=Dx N y4 (s++r) K∧eA s∧(∀z,z∈s↔z=x∨z∈p++q)∧s.length=p.length+q.length+1
 | 0,p,x,q,r,h,_,_,_,_=>by omega
 | n+1,p,x,q,r,h,h5,S,hx,hp=>by
  show∃s,H0 N (p++x::(q++r)) y4 (p.length:Int) K _=_∧_
  unfold H0 HZ NG NF
  rcases List.eq_nil_or_concat p with rfl | ⟨p',y,rfl⟩
  · rw [List.nil_append]at S
    exact⟨x::q,rfl,List.pairwise_cons.2 ⟨hx,S⟩,fun z=>by simp,by simp⟩
  · rw [List.concat_eq_append]at S hp h h5 ⊢
    have e1:((p'++[y]).length:Int)=(p'.length:Int)+1:=by simp
    have hl:(p'++[y]).length=p'.length+1:=by simp
    have e2:bD .i64 (((p'++[y]).length:Int)-1)=(p'.length:Int):=by rw [e1,jY (by omega) (by omega)];omega
    have e3:ix ((p'++[y])++x::(q++r)) (p'.length:Int)=some y:=by rw [List.append_assoc];exact Yz p' y _
    rw [e2,Yz,e3,decide_eq_true (by omega)]
    simp only [cond_true,Option.bind_some,Int.toNat_natCast]
    obtain⟨S1,S2,S3⟩:=YA.1 S
    obtain⟨S4,_,S5⟩:=YA.1 S1
    by_cases bJ:x<y
    · rw [decide_eq_true bJ]
      have e4:(((p'++[y])++x::(q++r)).set (p'++[y]).length y)=p'++y::y::(q++r):=by
       rw [List.set_append_right _ _ (Nat.le_refl _),Nat.sub_self];simp
      have e5:(p'++y::y::(q++r)).set p'.length x=p'++x::((y::q)++r):=by
       rw [List.set_append_right _ _ (Nat.le_refl _),Nat.sub_self];simp
      have e6:ix (p'++y::y::(q++r)) (p'.length:Int)=some y:=Yz p' y _
      rw [e4,e6]
      simp only [cond_true,Option.bind_some]
      rw [e5]
      obtain⟨s,h1,h2,h3,h4⟩:=ahE N y4 K n p' x (y::q) r (by omega) (by omega) (by rw [List.append_assoc]at S;exact S) (fun z hz=>by
       rcases List.mem_cons.1 hz with rfl | hz
       · exact bJ
       · exact hx z hz) (fun hm=>hp (List.mem_append_left _ hm))
      refine⟨s,h1,h2,fun z=>by rw [h3];simp,by rw [h4];simp;omega⟩
    · rw [decide_eq_false bJ]
      have hyx:y<x:=by
       have:x≠y:=fun e=>hp (by rw [e];simp)
       omega
      refine⟨(p'++[y])++x::q,by show Dx N y4 ((p'++[y])++x::(q++r)) K=_;rw [List.append_assoc (p'++[y])];rfl,YA.2 ⟨S1,List.pairwise_cons.2 ⟨hx,S2⟩,fun a ha b hb=> ?_⟩,fun z=>by simp;grind,by simp;omega⟩
      have YB:a≤y:=by
       rcases List.mem_append.1 ha with ha | ha
       · exact Int.le_of_lt (S5 a ha y (by simp))
       · rw [List.mem_singleton.1 ha];exact Int.le_refl _
      rcases List.mem_cons.1 hb with rfl | hb
      · omega
      · have:=hx b hb;omega
theorem ahF (N:Nat) (hN:4000≤N):∀(n:Nat) (s r:List Int),s++r≠[]→(s++r).length≤3000→eA s→(s++r).Nodup→r.length<n→AN N n (s++r) (s.length:Int)=some (fS (s++r) [])
 | 0,s,r,_,_,_,_,h=>by omega
 | n+1,s,[],_,_,S,_,_=>by
  show AM N (s++[]) (s.length:Int) _=_
  unfold AM
  rw [List.append_nil,vO]
  show some s=_
  exact congrArg some (eA.ext S (ry .nil) fun z=>by rw [pG];simp)
 | n+1,s,x::r,_,hl,S,D,h=>by
  show AM N (s++x::r) (s.length:Int) _=_
  unfold AM NI
  have Sk:(s++x::r).length=s.length+(r.length+1):=by simp
  have hx:x∉s:=fun hx=>(List.nodup_append.1 D).2.2 x hx x (by simp) rfl
  obtain⟨t,h1,h2,h3,h4⟩:=ahE N (s.length:Int) (fun ag aP=>AN N n aP ag) N s x [] r (by omega) (by omega) (by rw [List.append_nil];exact S) (fun z hz=>(by cases hz)) hx
  rw [List.nil_append]at h1
  rw [decide_eq_true (by omega),cond_true,h1]
  unfold Dx
  rw [vN _ (by omega),show s.length+1=t.length by rw [h4];rfl]
  have hm:∀z,z∈t↔z∈s++[x]:=fun z=>by rw [h3];simp;grind
  have D2:(t++r).Nodup:=by
   obtain⟨d1,d2,d3⟩:=List.nodup_append.1 D
   obtain⟨d4,d5⟩:=List.nodup_cons.1 d2
   refine List.nodup_append.2 ⟨h2.nd,d5,fun a ha b hb e=> ?_⟩
   subst e
   rcases List.mem_append.1 ((hm a).1 ha)with ha | ha
   · exact d3 a ha a (List.mem_cons_of_mem _ hb) rfl
   · rw [List.mem_singleton.1 ha]at hb;exact d4 hb
  have bJ:t.length=s.length+1:=by rw [h4];rfl
  have:=ahF N hN n t r (fun e=>by rw [List.append_eq_nil_iff]at e;have:=congrArg List.length e.1;rw [bJ]at this;cases this) (by rw [List.length_append];omega) h2 D2 (by have h':r.length+1<n+1:=h;omega)
  refine Eq.trans this ?_
  refine congrArg some (aeh .nil fun z=> ?_)
  rw [List.mem_append,hm];simp;grind
theorem avK (N:Nat) (hN:4000≤N) (l:List Int) (hl:l.length≤3000) (D:l.Nodup):H6 N l=some (fS l []):=by
 unfold H6
 rw [decide_eq_true (show([]:List Int).length+l.length≤1048576 by simp;omega)]
 show AN N N l 1=_
 cases l with
 | nil =>
  obtain⟨n,rfl⟩:∃n,N=n+1:=⟨N-1,by omega⟩
  rfl
 | cons x r=>exact ahF N hN N [x] r (by simp) (by simpa using hl) (List.pairwise_singleton _ _) D (by simp at hl;omega)
end
end Go.Ve.T
namespace Go.Ve.T
open Go.Ve
open Classical
noncomputable section
def yy (w:Int) (l:List Int) (z:Int):List Int:=if z=w then l else oY l z
theorem ahG {l:List Int}{x:Int}(h:l.Nodup):(oY l x).Nodup:=by
 unfold oY
 split
 · exact h
 · next hx=>exact List.nodup_append.2 ⟨h,by simp,fun a ha b hb e=>hx (by rw [←List.mem_singleton.1 hb,←e];exact ha)⟩
structure I3 {α:Type}(f:List Int→α→List Int) (M:α→Int→Prop) (c:Nat):Prop where
 mem:∀l x z,z∈f l x↔z∈l∨M x z
 nd:∀l x,l.Nodup→(f l x).Nodup
 len:∀l x,(f l x).length≤l.length+c
theorem I3.fold {α:Type}{f:List Int→α→List Int}{M:α→Int→Prop}{c:Nat}(H:I3 f M c):∀(t:List α) (l:List Int),(∀z,z∈t.foldl f l↔z∈l∨∃x∈t,M x z)∧(l.Nodup→(t.foldl f l).Nodup)∧(t.foldl f l).length≤l.length+c*t.length
 | [],l=>⟨fun z=>by simp,id,Nat.le_refl _⟩
 | x::t,l=>by
  obtain⟨h1,h2,h3⟩:=H.fold t (f l x)
  refine⟨fun z=> ?_,fun hn=>h2 (H.nd l x hn), ?_⟩
  · rw [List.foldl_cons,h1,H.mem]
    constructor
    · rintro((h | h) | ⟨y,h,h'⟩)
      · exact .inl h
      · exact .inr ⟨x,List.mem_cons_self,h⟩
      · exact .inr ⟨y,List.mem_cons_of_mem _ h,h'⟩
    · rintro(h | ⟨y,h,h'⟩)
      · exact .inl (.inl h)
      · rcases List.mem_cons.1 h with rfl | h
        · exact .inl (.inr h')
        · exact .inr ⟨y,h,h'⟩
  · have:=H.len l x
    rw [List.foldl_cons,List.length_cons,Nat.mul_add,Nat.mul_one]
    omega
theorem yz:I3 oY (fun x z=>z=x) 1:=⟨fun l x z=>ahH,fun l x=>ahG,ahI⟩
theorem OD (w:Int):I3 (yy w) (fun x z=>z=x∧z≠w) 1:=⟨fun l x z=>by
 unfold yy
 split
 · next h=>subst h;exact⟨.inl,fun h=>h.elim id fun h=>absurd h.1 h.2⟩
 · next h=>rw [ahH];exact or_congr Iff.rfl ⟨fun e=>⟨e,by rw [e];exact h⟩,fun e=>e.1⟩,fun l x hn=>by unfold yy;split;exact hn;exact ahG hn,fun l x=>by
 unfold yy
 split
 · omega
 · exact ahI l x⟩
def Bm (a:List (List Int)) (w:Int) (l:List Int) (b:Int):List Int:=(a.getD b.toNat []).foldl (yy w) l
def tS (a:List (List Int)) (y:Nat) (i:aq):List Int:=(jx i).foldl oY (a.getD y [])
def nz (u:ak) (a:List (List Int)) (y:Nat) (i:aq):List Int:=(ek u y i).foldl (Bm a (iW i)) (tS a y i)
def lR (u:ak) (a:List (List Int)) (y:Nat) (i:aq):List Int:=if ny i=true∧0≤jg u.aM y then(match ix u.aM (jg u.aM y)with | some d=>(a.getD d.eg.toNat []).foldl oY (nz u a y i) | none=>nz u a y i)else nz u a y i
def Sm (a:List (List Int)):Prop:=∀y,(a.getD y []).length≤80
theorem OE {a:List (List Int)}(h:Sm a) (w:Int):I3 (Bm a w) (fun b z=>z∈a.getD b.toNat []∧z≠w) 80:=⟨fun l b z=>by
 unfold Bm
 rw [((OD w).fold _ _).1]
 refine or_congr Iff.rfl ⟨fun⟨x,h1,h2,h3⟩=>by subst h2;exact⟨h1,h3⟩,fun⟨h1,h2⟩=>⟨z,h1,rfl,h2⟩⟩,fun l b hn=>((OD w).fold _ _).2.1 hn,fun l b=>by
 have h1:=((OD w).fold (a.getD b.toNat []) l).2.2
 have h2:=h b.toNat
 unfold Bm;omega⟩
theorem OF {u:ak}{y:Nat}{i:aq}{b:Int}:b∈ek u y i↔(jQ i.aI=false∧y+1<u.ae.length∧b=(y:Int)+1)∨fZ i=some b:=by
 have e:b∈(if jQ i.aI=false∧y+1<u.ae.length then [(y:Int)+1]else [])↔(jQ i.aI=false∧y+1<u.ae.length∧b=(y:Int)+1):=by
  split
  · next h=>rw [List.mem_singleton];exact⟨fun e=>⟨h.1,h.2,e⟩,fun e=>e.2.2⟩
  · next h=>exact⟨fun h=>(by cases h),fun h'=>absurd ⟨h'.1,h'.2.1⟩ h⟩
 unfold ek
 generalize (if jQ i.aI=false∧y+1<u.ae.length then [(y:Int)+1]else [])=l at e
 cases hj:fZ i with
 | none=>rw [←e];simp
 | some x =>
  simp only
  rw [←e,Option.some.injEq]
  by_cases hx:x∈l
  · rw [if_pos hx];exact⟨.inl,fun h=>h.elim id fun h=>h▸hx⟩
  · rw [if_neg hx,List.mem_append,List.mem_singleton]
    exact or_congr Iff.rfl ⟨fun h=>h.symm,fun h=>h.symm⟩
theorem ahJ (u:ak) (y:Nat) (i:aq):(ek u y i).length≤2:=avL u y i
theorem avM {u:ak}{a:List (List Int)}(h:Sm a) (y:Nat) (i:aq):(tS a y i).length≤82∧(nz u a y i).length≤242∧(lR u a y i).length≤322:=by
 have h1:(tS a y i).length≤82:=by
  have h1:=(yz.fold (jx i) (a.getD y [])).2.2
  have h2:=h y
  have h3:=Oz i
  unfold tS;omega
 have h2:(nz u a y i).length≤242:=by
  have h3:=((OE h (iW i)).fold (ek u y i) (tS a y i)).2.2
  have h4:=ahJ u y i
  unfold nz;omega
 refine⟨h1,h2, ?_⟩
 unfold lR
 split
 · split
   · next d _ =>
     have h3:=(yz.fold (a.getD d.eg.toNat []) (nz u a y i)).2.2
     have h4:=h d.eg.toNat
     omega
   · omega
 · omega
theorem avN {u:ak}{a:List (List Int)}(h:Sm a) (y:Nat) (i:aq) (hn:(a.getD y []).Nodup):(lR u a y i).Nodup:=by
 have h2:(nz u a y i).Nodup:=((OE h (iW i)).fold _ _).2.1 ((yz.fold _ _).2.1 hn)
 unfold lR
 split
 · split
   · exact(yz.fold _ _).2.1 h2
   · exact h2
 · exact h2
theorem avO {u:ak}{a:List (List Int)}(h:Sm a) (H:LI u a){y:Nat}{i:aq}(hi:u.ae[y]? =some i) (z:Int):z∈lR u a y i↔z∈lr u a y i:=by
 have m1:z∈tS a y i↔z∈a.getD y []∨z∈jx i:=by
  unfold tS
  rw [(yz.fold _ _).1]
  exact or_congr Iff.rfl ⟨fun⟨x,h1,h2⟩=>h2▸h1,fun h1=>⟨z,h1,rfl⟩⟩
 have m2:z∈nz u a y i↔(z∈a.getD y []∨z∈jx i)∨∃b∈ek u y i,z∈a.getD b.toNat []∧z≠iW i:=by
  unfold nz
  rw [((OE h (iW i)).fold _ _).1,m1]
 have m3:z∈lR u a y i↔z∈nz u a y i∨(ny i=true∧0≤jg u.aM y∧∃d,ix u.aM (jg u.aM y)=some d∧z∈a.getD d.eg.toNat []):=by
  unfold lR
  split
  · next hg =>
    obtain⟨d,hd,_⟩:=OB hg.2
    rw [hd]
    simp only
    rw [(yz.fold _ _).1]
    refine or_congr Iff.rfl ⟨fun⟨x,h1,h2⟩=>⟨hg.1,hg.2,d,rfl,h2▸h1⟩,fun⟨_,_,d',h1,h2⟩=> ?_⟩
    cases h1;exact⟨z,h2,rfl⟩
  · next hg=>exact⟨.inl,fun h=>h.elim id fun h=>absurd ⟨h.1,h.2.1⟩ hg⟩
 rw [m3,m2]
 constructor
 · rintro(((h1 | h1) | ⟨b,h1,h2,h3⟩) | ⟨h1,h2,d,h3,h4⟩)
   · exact H.grow y i hi z h1
   · exact sa.2 (.inl h1)
   · rcases OF.1 h1 with⟨h4,h5,h6⟩ | h4
     · exact sa.2 (.inr ⟨(b,0),Oy.2 (.inl ⟨h4,h5,h6,rfl⟩),h2,.inr h3⟩)
     · exact sa.2 (.inr ⟨(b,1),Oy.2 (.inr (.inl ⟨h4,rfl⟩)),h2,.inr h3⟩)
   · exact sa.2 (.inr ⟨(d.eg,2),Oy.2 (.inr (.inr ⟨h1,h2,d,h3,rfl,rfl⟩)),h4,.inl rfl⟩)
 · intro hz
   rcases sa.1 hz with h1 | ⟨⟨b,k⟩,h1,h2,h3⟩
   · exact .inl (.inl (.inr h1))
   · rcases Oy.1 h1 with⟨h4,h5,h6,rfl⟩ | ⟨h4,rfl⟩ | ⟨h4,h5,d,h6,h7,rfl⟩
     · exact .inl (.inr ⟨b,OF.2 (.inl ⟨h4,h5,h6⟩),h2,h3.resolve_left (by simp)⟩)
     · exact .inl (.inr ⟨b,OF.2 (.inr h4),h2,h3.resolve_left (by simp)⟩)
     · exact .inr ⟨h4,h5,d,h6,by rw [h7];exact h2⟩
theorem avP {u:ak}(U:fq u) (gb:u.ae.length≤40) (N:Nat) (hN:4000≤N){a:List (List Int)}(h:Sm a) (ha:a.length=u.ae.length){y:Nat}(hy:y<u.ae.length) (c:Bool) (K:Bool→Int→List (List Int)→Option (List (List Int))) :
 Ih N a (y:Int) u c K=if (lR u a y u.ae[y]).length=(a.getD y []).length then K c ((y:Int)-1) a else K true ((y:Int)-1) (a.set y (lR u a y u.ae[y])):=by
 have hn:=U.n1
 have kX:1000≤N:=by omega
 have hu:u.ae[y]? =some u.ae[y]:=List.getElem?_eq_getElem hy
 have YB:y<a.length:=by omega
 have hlen:=avM (u:=u) h y u.ae[y]
 have hr2:=Oz u.ae[y]
 have kr:=ahJ u y u.ae[y]
 have h80:=h y
 have YC:∀l:List Int,Dy N a (y:Int) c l u K=if l.length=(a.getD y []).length then K c ((y:Int)-1) a else K true ((y:Int)-1) (a.set y l):=fun l=>by
  unfold Dy Ib
  rw [tR YB,jY (by omega) (by omega)]
  simp only [Option.bind_some,Int.toNat_natCast]
  by_cases e:l.length=(a.getD y []).length
  · rw [if_pos e,decide_eq_true (by omega)];rfl
  · rw [if_neg e,decide_eq_false (by omega)];rfl
 have J13:Dz N u (y:Int) a c (nz u a y u.ae[y]) K=if (lR u a y u.ae[y]).length=(a.getD y []).length then K c ((y:Int)-1) a else K true ((y:Int)-1) (a.set y (lR u a y u.ae[y])):=by
  unfold Dz Ie
  rw [ahz N u y (by omega) (by omega),Option.bind_some,iB,hu,Option.bind_some,ahA,Option.bind_some]
  by_cases hg:ny u.ae[y]=true∧0≤jg u.aM y
  · obtain⟨d,hd,hm⟩:=OB hg.2
    obtain⟨j,hj⟩:=List.getElem?_of_mem hm
    have hr:=U.IZ hj
    obtain⟨k0,OG⟩:=Int.eq_ofNat_of_zero_le hr.2.2.2.1
    have OG:d.eg=(k0:Int):=OG
    have tT:k0<a.length:=by omega
    have e3:lR u a y u.ae[y]=(a.getD k0 []).foldl oY (nz u a y u.ae[y]):=by
     unfold lR
     rw [if_pos hg,hd]
     simp only
     rw [OG,Int.toNat_natCast]
    rw [hg.1,decide_eq_true hg.2,hd]
    simp only [cond_true,Option.bind_some]
    rw [OG,e3]
    have h8:=h k0
    exact OC (fun n s z=>Ic N (k0:Int) (y:Int) c u K n a s z) (a.getD k0 []) oY (nz u a y u.ae[y]) (fun l=>if l.length=(a.getD y []).length then K c ((y:Int)-1) a else K true ((y:Int)-1) (a.set y l)) (fun n i s x hx hs=>by
     have hi:=(List.getElem?_eq_some_iff.1 hx).1
     have pv:=(yz.fold ((a.getD k0 []).take i) (nz u a y u.ae[y])).2.2
     rw [←hs,List.length_take]at pv
     show AQ N a (k0:Int) (y:Int) c s (i:Int) u K _=_
     unfold AQ NS NQ
     rw [tR tT,Option.bind_some,yx i _ hi,Option.bind_some,iB,hx,Option.bind_some,YD N s x (by omega) (by omega),Option.bind_some,vN i (by omega)];rfl) (fun n s=>by
     show AQ N a (k0:Int) (y:Int) c s _ u K _=_
     unfold AQ
     rw [tR tT,Option.bind_some,vO]
     exact YC s) N (by omega)
  · have e3:lR u a y u.ae[y]=nz u a y u.ae[y]:=by unfold lR;rw [if_neg hg]
    rw [e3]
    cases hr:ny u.ae[y]with
    | false=>exact YC _
    | true=>rw [decide_eq_false fun h=>hg ⟨hr,h⟩];exact YC _
 have J12:DA N u (y:Int) a c (tS a y u.ae[y]) K=if (lR u a y u.ae[y]).length=(a.getD y []).length then K c ((y:Int)-1) a else K true ((y:Int)-1) (a.set y (lR u a y u.ae[y])):=by
  unfold DA
  rw [iB,hu,Option.bind_some,avQ,Option.bind_some,ahB U N kX y hy,Option.bind_some,←J13]
  exact OC (fun n s z=>AS N (ek u y u.ae[y]) (iW u.ae[y]) u (y:Int) c K n a s z) (ek u y u.ae[y]) (Bm a (iW u.ae[y])) (tS a y u.ae[y]) (fun l=>Dz N u (y:Int) a c l K) (fun n i s b hb hs=>by
   have hi:=(List.getElem?_eq_some_iff.1 hb).1
   have pv:=((OE h (iW u.ae[y])).fold ((ek u y u.ae[y]).take i) (tS a y u.ae[y])).2.2
   rw [←hs,List.length_take]at pv
   have MW:=List.mem_of_getElem? hb
   have avR:0≤b∧b<(u.ae.length:Int):=by
    rcases OF.1 MW with⟨_,h1,h2⟩ | h1
    · omega
    · exact U.jmp hu h1
   obtain⟨k0,rfl⟩:=Int.eq_ofNat_of_zero_le avR.1
   have tT:k0<a.length:=by omega
   have h8:=h k0
   show AR N _ a (iW u.ae[y]) u (y:Int) c s (i:Int) K _=_
   unfold AR NP
   rw [yx i _ hi,cond_true]
   have e2:Bm a (iW u.ae[y]) s (k0:Int)=(a.getD k0 []).foldl (yy (iW u.ae[y])) s:=by unfold Bm;rw [Int.toNat_natCast]
   rw [e2]
   exact OC (fun n' s' z=>Ia N (ek u y u.ae[y]) (i:Int) (iW u.ae[y]) u (fun ag aD bo=>AS N (ek u y u.ae[y]) (iW u.ae[y]) u (y:Int) c K n bo ag aD) n' a s' z) (a.getD k0 []) (yy (iW u.ae[y])) s (fun l=>AS N (ek u y u.ae[y]) (iW u.ae[y]) u (y:Int) c K n a l (((i+1:Nat)):Int)) (fun n' j s' x hx hs'=>by
    have hj:=(List.getElem?_eq_some_iff.1 hx).1
    have avS:=((OD (iW u.ae[y])).fold ((a.getD k0 []).take j) s).2.2
    rw [←hs',List.length_take]at avS
    show AP N _ (i:Int) a (iW u.ae[y]) s' (j:Int) u _ _=_
    unfold AP NM H9
    have gD:ix (a.getD k0 []) (j:Int)=some x:=hx
    rw [iB (ek u y u.ae[y]),hb,Option.bind_some,tR tT,Option.bind_some,yx j _ hj,vN j (by omega)]
    simp only [cond_true,Option.bind_some,tR tT,gD]
    unfold yy
    by_cases hw:x=iW u.ae[y]
    · rw [decide_eq_true hw,if_pos hw];rfl
    · rw [decide_eq_false hw,if_neg hw,YD N s' x (by omega) (by omega)];rfl) (fun n' s'=>by
    show AP N _ (i:Int) a (iW u.ae[y]) s' _ u _ _=_
    unfold AP NN
    rw [iB (ek u y u.ae[y]),hb,Option.bind_some,tR tT,Option.bind_some,vO,vN i (by omega)];rfl) N (by omega)) (fun n s=>by
   show AR N _ a (iW u.ae[y]) u (y:Int) c s _ K _=_
   unfold AR
   rw [vO];rfl) N (by omega)
 unfold Ih
 rw [tR YB,Option.bind_some,decide_eq_true (show([]:List Int).length+(a.getD y []).length≤1048576 by simp;simp at h80;omega)]
 show((ix u.ae (y:Int)).bind _)=_
 rw [iB,hu,Option.bind_some,avT N kX,Option.bind_some,←J12]
 exact OC (fun n s z=>Ig N (jx u.ae[y]) u (y:Int) c K n a s z) (jx u.ae[y]) oY (a.getD y []) (fun l=>DA N u (y:Int) a c l K) (fun n i s x hx hs=>by
  have hi:=(List.getElem?_eq_some_iff.1 hx).1
  have pv:=(yz.fold ((jx u.ae[y]).take i) (a.getD y [])).2.2
  rw [←hs,List.length_take]at pv
  show AT N _ u (y:Int) a c s (i:Int) K _=_
  unfold AT NK NJ
  rw [yx i _ hi,iB,hx,Option.bind_some,YD N s x (by omega) (by omega),Option.bind_some,vN i (by omega)];rfl) (fun n s=>by
  show AT N _ u (y:Int) a c s _ K _=_
  unfold AT
  rw [vO];rfl) N (by omega)
end
end Go.Ve.T
namespace Go.Ve.T
open Go.Ve
open Classical
noncomputable section
theorem avx {u:ak}(U:fq u) (N:Nat) (hN:1000≤N):(∃out,xa N u=some (out,0)∧DZ u out∧Good u)∨(xa N u=some ([],12)∧¬Good u):=by
 unfold xa Og
 rw [Ow N hN,U.pl]
 rcases avp U N hN with⟨out,h1,h2⟩ | ⟨h1,h2⟩
 · exact .inl ⟨out,by simp [h1,Of],h2⟩
 · exact .inr ⟨by simp [h1],h2⟩
end
end Go.Ve.T
namespace Go.Ve.T
open Go.Ve
noncomputable section
open Classical
theorem avy {α:Type}{l:List α}{j:Nat}{b:α}(h:ix l (j:Int)=some b):b∈l:=by rw [iB]at h;exact List.mem_of_getElem? h
theorem Yv {σ β:Type}(I:Nat→σ→Int→Option β) (hi:Nat) (Inv:Nat→σ→Prop) (E:Option β→Prop)
 (step:∀n (i:Nat) s,i<hi→Inv i s→E (I (n+1) s (i:Int))∨∃s',Inv (i+1) s'∧I (n+1) s (i:Int)=I n s' ((i:Int)+1)):∀n (i:Nat) s,Inv i s→i≤hi→hi<n+i→E (I n s (i:Int))∨∃n' s',Inv hi s'∧I n s (i:Int)=I (n'+1) s' (hi:Int)
 | 0,i,s,h,h1,h2=>by omega
 | n+1,i,s,h,h1,h2=>by
  by_cases e:i<hi
  · rcases step n i s e h with h3 | ⟨s',h3,h4⟩
    · exact .inl h3
    · rcases Yv I hi Inv E step n (i+1) s' h3 e (by omega)with h5 | ⟨n',s2,h5,h6⟩
      · refine .inl ?_
        rw [h4];exact h5
      · exact .inr ⟨n',s2,h5,h4.trans h6⟩
  · have:i=hi:=by omega
    subst this
    exact .inr ⟨n,s,h,rfl⟩
def iX (i:aq) (d b:Int):Int:=if i.aI=30 then d+1 else if i.aI=31∨(i.aI=32∧fZ i=some b)then d-1 else d
def pP (y:Nat) (i:aq) (b:Int):Prop:=i.aI=32∧fZ i=some b∧b=(y:Int)+1
theorem ahx {i:aq}{x:Int}(h:fZ i=some x):i.aI=24∨i.aI=25∨i.aI=32:=by
 unfold fZ at h
 by_cases DY:i.aI=24
 · exact .inl DY
 · rw [if_neg DY]at h
   by_cases h2:i.aI=25∨i.aI=32
   · exact .inr h2
   · rw [if_neg h2]at h;cases h
theorem avz {u:ak}{y:Nat}{i:aq}{b d:Int}(h:b∈ek u y i) (ht:¬pP y i b):∃k,(b,k)∈jP u y i∧jR i.aI d k=iX i d b:=by
 have Yw:b∈(if jQ i.aI=false∧y+1<u.ae.length then [(y:Int)+1]else [])→∃k,(b,k)∈jP u y i∧jR i.aI d k=iX i d b:=fun h=>by
  split at h
  · rename_i hc
    rw [List.mem_singleton]at h
    subst h
    refine⟨0,List.mem_append_left _ (List.mem_append_left _ (by rw [if_pos hc];exact List.mem_singleton.2 rfl)), ?_⟩
    have hn:¬(i.aI=32∧fZ i=some ((y:Int)+1)):=fun h=>ht ⟨h.1,h.2,rfl⟩
    unfold jR iX r8
    rw [if_neg (by omega)]
    by_cases kP:i.aI=30
    · rw [if_pos ⟨kP,rfl⟩,if_pos kP]
    · rw [if_neg fun h=>kP h.1,if_neg kP]
      by_cases l6:i.aI=31
      · rw [if_pos (Or.inl ⟨l6,rfl⟩),if_pos (Or.inl l6)];omega
      · rw [if_neg (by omega),if_neg (fun h=>h.elim l6 hn)];omega
  · cases h
 unfold ek at h
 cases hj:fZ i with
 | none=>rw [hj]at h;exact Yw h
 | some x =>
  rw [hj]at h
  have jmp:b=x→∃k,(b,k)∈jP u y i∧jR i.aI d k=iX i d b:=fun e=>by
   subst e
   refine⟨1,List.mem_append_left _ (List.mem_append_right _ (List.mem_map.2 ⟨b,Option.mem_toList.2 hj,rfl⟩)), ?_⟩
   unfold jR iX r8
   have aY:=ahx hj
   rw [if_neg (by omega),if_neg (by omega),if_neg (show¬i.aI=30 by omega)]
   by_cases iV:i.aI=32
   · rw [if_pos (Or.inr ⟨iV,rfl⟩),if_pos (Or.inr ⟨iV,hj⟩)];omega
   · rw [if_neg (by omega),if_neg (fun h=>h.elim (fun h=>by omega) fun h=>iV h.1)];omega
  simp only at h
  by_cases hm:x∈(if jQ i.aI=false∧y+1<u.ae.length then [(y:Int)+1]else [])
  · rw [if_pos hm]at h;exact Yw h
  · rw [if_neg hm]at h
    rcases List.mem_append.1 h with h | h
    · exact Yw h
    · exact jmp (List.mem_singleton.1 h)
theorem avA {u:ak}{y:Nat}{i:aq}{x:Int×Int}{d:Int}(h:x∈jP u y i) (ht:¬pP y i x.1):(x.2≠2∧x.1∈ek u y i∧jR i.aI d x.2=iX i d x.1)∨(x.2=2∧ny i=true∧0≤jg u.aM y∧∃g,ix u.aM (jg u.aM y)=some g∧g.eg=x.1):=by
 unfold jP at h
 rw [List.mem_append,List.mem_append]at h
 rcases h with(h | h) | h
 · split at h
   · rename_i hc
     rw [List.mem_singleton]at h
     subst h
     refine .inl ⟨by simp, ?_, ?_⟩
     · unfold ek
       rw [if_pos hc]
       cases fZ i with
       | none=>exact List.mem_singleton.2 rfl
       | some z =>
        simp only
        split
        · exact List.mem_singleton.2 rfl
        · exact List.mem_append_left _ (List.mem_singleton.2 rfl)
     · have hn:¬(i.aI=32∧fZ i=some ((y:Int)+1)):=fun h=>ht ⟨h.1,h.2,rfl⟩
       show jR i.aI d 0=iX i d ((y:Int)+1)
       unfold jR iX r8
       rw [if_neg (by omega)]
       by_cases kP:i.aI=30
       · rw [if_pos ⟨kP,rfl⟩,if_pos kP]
       · rw [if_neg fun h=>kP h.1,if_neg kP]
         by_cases l6:i.aI=31
         · rw [if_pos (Or.inl ⟨l6,rfl⟩),if_pos (Or.inl l6)];omega
         · rw [if_neg (by omega),if_neg (fun h=>h.elim l6 hn)];omega
   · cases h
 · obtain⟨z,hz,rfl⟩:=List.mem_map.1 h
   have hj:fZ i=some z:=Option.mem_toList.1 hz
   refine .inl ⟨by simp, ?_, ?_⟩
   · unfold ek
     rw [hj]
     simp only
     generalize (if jQ i.aI=false∧y+1<u.ae.length then [(y:Int)+1]else [])=l
     by_cases hm:z∈l
     · rw [if_pos hm];exact hm
     · rw [if_neg hm];exact List.mem_append_right _ (List.mem_singleton.2 rfl)
   · show jR i.aI d 1=iX i d z
     unfold jR iX r8
     have aY:=ahx hj
     rw [if_neg (by omega),if_neg (by omega),if_neg (show¬i.aI=30 by omega)]
     by_cases iV:i.aI=32
     · rw [if_pos (Or.inr ⟨iV,rfl⟩),if_pos (Or.inr ⟨iV,hj⟩)];omega
     · rw [if_neg (by omega),if_neg (fun h=>h.elim (fun h=>by omega) fun h=>iV h.1)];omega
 · split at h
   · rename_i hc
     obtain⟨g,hg,rfl⟩:=List.mem_map.1 h
     exact .inr ⟨rfl,hc.1,hc.2,g,Option.mem_toList.1 hg,rfl⟩
   · cases h
end
end Go.Ve.T
namespace Go.Ve.T
open Go.Ve
noncomputable section
open Classical
abbrev DK:=Bool→Int→List Int→Option aN
abbrev vP (u:ak) (r:Option aN):Prop:=r=some (aN.mk [] 12)∧¬Good u
theorem avB {u:ak}(hl:u.ae.length≤600) (N:Nat) (y:Nat) (i:aq) (hi:u.ae[y]? =some i) (out:List Int) (d:Int) (ho:out[y]? =some d) (hd:0≤d) (gb:d≤40) (v20:List Int) (j:Nat) (b:Int) (hj:ix v20 (j:Int)=some b) (D0:aN) (ch:Bool) (K:DK) :
 xx N out (y:Int) u v20 (j:Int) D0 ch K=if pP y i b then some (aN.mk [] 12)else HI N (iX i d b) out v20 (j:Int) D0 ch u K:=by
 have hy:y<u.ae.length:=(List.getElem?_eq_some_iff.1 hi).1
 unfold xx HN AB HM HL HK
 rw [iB,ho,iB,hi]
 simp only [Option.bind_some,Yh,hj,jY (n:=(y:Int)+1) (by omega) (by omega),jY (n:=d+1) (by omega) (by omega),jY (n:=d-1) (by omega) (by omega)]
 by_cases kP:i.aI=30
 · have l6:¬i.aI=31:=by omega
   have iV:¬i.aI=32:=by omega
   have ht:¬pP y i b:=fun h=>iV h.1
   have hr:iX i d b=d+1:=by unfold iX;rw [if_pos kP]
   rw [if_neg ht,hr,decide_eq_true kP,decide_eq_false l6,decide_eq_false iV];rfl
 · by_cases l6:i.aI=31
   · have iV:¬i.aI=32:=by omega
     have ht:¬pP y i b:=fun h=>iV h.1
     have hr:iX i d b=d-1:=by unfold iX;rw [if_neg kP,if_pos (Or.inl l6)]
     rw [if_neg ht,hr,decide_eq_false kP,decide_eq_true l6,decide_eq_false iV];rfl
   · by_cases iV:i.aI=32
     · have ej:fZ i=some i.fB:=by unfold fZ;rw [if_neg (by omega),if_pos (Or.inr iV)]
       rw [decide_eq_false kP,decide_eq_false l6,decide_eq_true iV,ej]
       simp only [cond_false,cond_true]
       by_cases hb:b=i.fB
       · by_cases kr:i.fB=(y:Int)+1
         · rw [if_pos ⟨iV,by rw [ej,hb],by omega⟩,decide_eq_true hb,decide_eq_true kr];rfl
         · have ht:¬pP y i b:=fun h=>kr (by rw [←hb];exact h.2.2)
           have hr:iX i d b=d-1:=by unfold iX;rw [if_neg kP,if_pos (Or.inr ⟨iV,by rw [ej,hb]⟩)]
           rw [if_neg ht,hr,decide_eq_true hb,decide_eq_false kr];rfl
       · have ht:¬pP y i b:=fun h=>hb (by have:=h.2.1;rw [ej]at this;cases this;rfl)
         have hr:iX i d b=d:=by
          unfold iX
          rw [if_neg kP,if_neg fun h=>h.elim l6 fun h=>hb (by have:=h.2;rw [ej]at this;cases this;rfl)]
         rw [if_neg ht,hr,decide_eq_false hb];rfl
     · have ht:¬pP y i b:=fun h=>iV h.1
       have hr:iX i d b=d:=by unfold iX;rw [if_neg kP,if_neg fun h=>h.elim l6 fun h=>iV h.1]
       rw [if_neg ht,hr,decide_eq_false kP,decide_eq_false l6,decide_eq_false iV];rfl
structure kv (u:ak) (out:List Int) (ch:Bool) (fM:List Int) (sc:Bool):Prop where
 di:DI u fM []
 ext:Ext out fM
 same:sc=false→ch=false∧fM=out
 le:open_ fM≤open_ out
 lt:sc=true→ch=true∨open_ fM<open_ out
theorem kv.refl {u:ak}{out:List Int}{ch:Bool}(I:DI u out []):kv u out ch out ch:=⟨I,Ext.refl _,fun h=>⟨h,rfl⟩,Nat.le_refl _,fun h=>.inl h⟩
theorem kv.trans {u:ak}{a b c:List Int}{x y z:Bool}(h1:kv u a x b y) (h2:kv u b y c z):kv u a x c z:=by
 refine⟨h2.di,h1.ext.trans h2.ext,fun h=> ?_,Nat.le_trans h2.le h1.le,fun h=> ?_⟩
 · obtain⟨e1,e2⟩:=h2.same h
   obtain⟨e3,e4⟩:=h1.same e1
   exact⟨e3,e2.trans e4⟩
 · rcases h2.lt h with h3 | h3
   · rcases h1.lt h3 with h4 | h4
     · exact .inl h4
     · exact .inr (Nat.lt_of_le_of_lt h2.le h4)
   · exact .inr (Nat.lt_of_lt_of_le h3 h1.le)
theorem kv.put {u:ak}{out:List Int}{ch:Bool}(I:DI u out []){b:Nat}{v db:Int}(hb:out[b]? =some db) (hn:db<0) (h0:0≤v) (gb:v≤40) (hD:jo u b v):kv u out ch (out.set b v) true:=by
 have sR:=(List.getElem?_eq_some_iff.1 hb).1
 have hos:=ahj hb hn h0
 refine⟨⟨by simpa using I.len,fun y d h=> ?_,fun z hz=>(by cases hz)⟩,fun y d h h0'=> ?_,fun h=>(by cases h),by omega,fun _=>.inr (by omega)⟩
 · rw [List.getElem?_set]at h
   by_cases e:b=y
   · subst e;rw [if_pos rfl,if_pos sR]at h;cases h;exact .inr ⟨h0,gb,hD⟩
   · rw [if_neg e]at h;exact I.tP y d h
 · rw [List.getElem?_set,if_neg]
   · exact h
   · intro e;subst e;rw [hb]at h;cases h;omega
theorem avC {u:ak}(U:fq u) (N:Nat) (y:Nat) (i:aq) (hi:u.ae[y]? =some i) (out:List Int) (I:DI u out []) (d:Int) (ho:out[y]? =some d) (hd:0≤d) (gb:d≤40) (hD:jo u y d) (j:Nat) (b:Int) (hj:ix (ek u y i) (j:Int)=some b) (hjs:j<1000) (D0:aN) (ch:Bool) (K:DK) :
 vP u (xx N out (y:Int) u (ek u y i) (j:Int) D0 ch K)∨∃fM sc,xx N out (y:Int) u (ek u y i) (j:Int) D0 ch K=K sc ((j:Int)+1) fM∧kv u out ch fM sc∧¬pP y i b∧fM[b.toNat]? =some (iX i d b)∧0≤iX i d b:=by
 rw [avB U.n1.2.1 N y i hi out d ho hd gb _ j b hj]
 have hy:y<u.ae.length:=(List.getElem?_eq_some_iff.1 hi).1
 have ei:u.ae[y]=i:=(List.getElem?_eq_some_iff.1 hi).2
 by_cases ht:pP y i b
 · rw [if_pos ht]
   refine .inl ⟨rfl,fun G=> ?_⟩
   obtain⟨iV,ahy,hb⟩:=ht
   have hr:=U.jmp hi ahy
   have B0:jQ i.aI=false:=by rw [iV];rfl
   have l0:((y:Int)+1,(0:Int))∈jP u y i:=List.mem_append_left _ (List.mem_append_left _ (by rw [if_pos ⟨B0,by omega⟩];exact List.mem_singleton.2 rfl))
   have l1:(b,(1:Int))∈jP u y i:=List.mem_append_left _ (List.mem_append_right _ (List.mem_map.2 ⟨b,Option.mem_toList.2 ahy,rfl⟩))
   have D1:=jo.step y d i _ hD hi l0
   have D2:=jo.step y d i _ hD hi l1
   rw [←hb]at D1
   have:=(G _ _ D1).2 _ D2
   unfold jR r8 at this
   rw [iV]at this
   simp at this
   omega
 · rw [if_neg ht]
   obtain⟨k,hk,hv⟩:=avz (d:=d) (avy hj) ht
   have vM:=jo.step y d i _ hD hi hk
   have yt:=Ym U hi hk
   simp only at vM yt
   rw [hv]at vM
   generalize Ku:iX i d b=v at vM
   obtain⟨m,rfl⟩:=Int.eq_ofNat_of_zero_le yt.1
   have hm:m<out.length:=by rw [I.len];omega
   obtain⟨db,pO⟩:∃db,out[m]? =some db:=⟨_,List.getElem?_eq_getElem hm⟩
   rw [Int.toNat_natCast]at vM ⊢
   unfold HI Dp Nz HF
   simp only [DX,Option.bind_some,hj,iB,pO,jY (n:=(j:Int)+1) (by omega) (by omega),Int.toNat_natCast]
   by_cases hr:0≤v∧v≤40
   · by_cases sS:0≤db
     · by_cases dr:db=v
       · refine .inr ⟨out,ch, ?_,kv.refl I,ht,by rw [pO,dr],hr.1⟩
         have bJ:¬db<0:=by omega
         rw [decide_eq_true hr,decide_eq_true sS,decide_eq_true dr,decide_eq_false bJ];rfl
       · refine .inl ⟨?_,fun G=> ?_⟩
         · rw [decide_eq_true hr,decide_eq_true sS,decide_eq_false dr];rfl
         · rcases I.tP m db pO with e | ⟨_,_,avD⟩
           · omega
           · exact dr ((G m db avD).2 v vM)
     · have bJ:db<0:=by omega
       refine .inr ⟨out.set m v,true, ?_,kv.put I pO bJ hr.1 hr.2 vM,ht,by rw [List.getElem?_set,if_pos rfl,if_pos hm],hr.1⟩
       rw [decide_eq_true hr,decide_eq_false sS,decide_eq_true bJ];rfl
   · refine .inl ⟨?_,fun G=>hr (G m v vM).1⟩
     rw [decide_eq_false hr];rfl
end
end Go.Ve.T
namespace Go.Ve.T
open Go.Ve
noncomputable section
open Classical
theorem avE {u:ak}{y:Nat}{i:aq}{b:Int}(h:fZ i=some b):b∈ek u y i:=by
 unfold ek
 rw [h]
 simp only
 generalize (if jQ i.aI=false∧y+1<u.ae.length then [(y:Int)+1]else [])=l
 by_cases hm:b∈l
 · rw [if_pos hm];exact hm
 · rw [if_neg hm];exact List.mem_append_right _ (List.mem_singleton.2 rfl)
theorem avF {u:ak}{y:Nat}{i:aq}:(ek u y i).length≤2:=by
 unfold ek
 have:(if jQ i.aI=false∧y+1<u.ae.length then [(y:Int)+1]else []).length≤1:=by split<;>simp
 simp only
 generalize (if jQ i.aI=false∧y+1<u.ae.length then [(y:Int)+1]else [])=l at this
 cases fZ i with
 | none=>simp only;omega
 | some x =>
  simp only
  split
  · omega
  · rw [List.length_append];simp;omega
theorem avG {u:ak}(U:fq u) (N:Nat) (hN:1000≤N) (y:Nat) (i:aq) (hi:u.ae[y]? =some i) (out:List Int) (I:DI u out []) (d:Int) (hD:jo u y d) (D0:aN) (ch:Bool) (K:DK) :
 vP u (AF N u (y:Int) out D0 ch K)∨∃fM sc,AF N u (y:Int) out D0 ch K=K sc ((y:Int)+1) fM∧kv u out ch fM sc∧(ny i=true→∀g,0≤jg u.aM y→ix u.aM (jg u.aM y)=some g→fM[g.eg.toNat]? =some 0):=by
 have hl:=U.n1.2.1
 have F9:=U.n1.2.2
 have hy:y<u.ae.length:=(List.getElem?_eq_some_iff.1 hi).1
 unfold AF HP NB NA xu
 rw [ahz N u y (by omega) (by omega),iB,hi]
 simp only [Option.bind_some,ahA,jY (n:=(y:Int)+1) (by omega) (by omega)]
 cases hr:ny i with
 | false=>exact .inr ⟨out,ch,rfl,kv.refl I,fun h=>by cases h⟩
 | true =>
  by_cases hd:0≤jg u.aM y
  · obtain⟨g,h1,h2⟩:=OB hd
    obtain⟨jj,hjj⟩:=List.getElem?_of_mem h2
    have hb:=U.IZ hjj
    obtain⟨m,hm⟩:=Int.eq_ofNat_of_zero_le (show 0≤g.eg by omega)
    have qt:m<out.length:=by rw [I.len];omega
    obtain⟨dm,vf⟩:∃dm,out[m]? =some dm:=⟨_,List.getElem?_eq_getElem qt⟩
    have avH:(g.eg,(2:Int))∈jP u y i:=List.mem_append_right _ (by rw [if_pos ⟨hr,hd⟩,h1];exact List.mem_singleton.2 rfl)
    have hDm:jo u m 0:=by
     have:=jo.step y d i _ hD hi avH
     simp only [hm,Int.toNat_natCast]at this
     have e:jR i.aI d 2=0:=by unfold jR;rw [if_pos rfl]
     rw [e]at this;exact this
    rw [decide_eq_false (show¬jg u.aM y<0 by omega),h1]
    simp only [Option.bind_some,hm,iB,vf,Bool.not_true,cond_false,Int.toNat_natCast]
    have tell:∀(o:List Int),o[m]? =some 0→(true=true→∀g',0≤jg u.aM y→some g=some g'→o[g'.eg.toNat]? =some 0):=fun o ho _ g' _ e=>by
     cases e;rw [hm,Int.toNat_natCast];exact ho
    by_cases hp:0<dm
    · refine .inl ⟨by rw [decide_eq_true hp];rfl,fun G=> ?_⟩
      rcases I.tP m dm vf with e | ⟨_,_,hD2⟩
      · omega
      · have:=(G m 0 hDm).2 dm hD2;omega
    · rw [decide_eq_false hp]
      by_cases hn:dm<0
      · rw [decide_eq_true hn]
        refine .inr ⟨out.set m 0,true,rfl,kv.put I vf hn (Int.le_refl 0) (by omega) hDm,fun h g' h3 h4=>tell _ (by rw [List.getElem?_set,if_pos rfl,if_pos qt]) rfl g' h3 (by first | exact h4 | (rw [←h1];exact h4))⟩
      · rw [decide_eq_false hn]
        have e0:dm=0:=by omega
        refine .inr ⟨out,ch,rfl,kv.refl I,fun h g' h3 h4=>tell _ (by rw [vf,e0]) rfl g' h3 (by first | exact h4 | (rw [←h1];exact h4))⟩
  · rw [decide_eq_true (show jg u.aM y<0 by omega)]
    exact .inr ⟨out,ch,rfl,kv.refl I,fun _ g h=>absurd h hd⟩
theorem avI {u:ak}(U:fq u) (N:Nat) (hN:1000≤N) (y:Nat) (i:aq) (hi:u.ae[y]? =some i) (out:List Int) (I:DI u out []) (d:Int) (ho:out[y]? =some d) (hd:0≤d) (gb:d≤40) (hD:jo u y d) (D0:aN) (ch:Bool) (K:DK) :
 vP u (AI N u (y:Int) out D0 ch K)∨∃fM sc,AI N u (y:Int) out D0 ch K=K sc ((y:Int)+1) fM∧kv u out ch fM sc∧tQ u fM y:=by
 have hy:y<u.ae.length:=(List.getElem?_eq_some_iff.1 hi).1
 have ei:u.ae[y]=i:=(List.getElem?_eq_some_iff.1 hi).2
 have rj:=avF (u:=u) (y:=y) (i:=i)
 unfold AI
 rw [ahB U N hN y hy,Option.bind_some,ei]
 have L:=Yv (fun n (s:List Int×Bool) j=>vA N (ek u y i) (y:Int) u D0 K n s.1 s.2 j) (ek u y i).length
  (fun j s=>kv u out ch s.1 s.2∧∀m,m<j→∀b,(ek u y i)[m]? =some b→¬pP y i b∧s.1[b.toNat]? =some (iX i d b)∧0≤iX i d b) (vP u) (fun n j s hj hI=>by
   obtain⟨A,F⟩:=hI
   have hb:ix (ek u y i) (j:Int)=some (ek u y i)[j]:=List.getElem?_eq_getElem hj
   have E:=avC U N y i hi s.1 A.di d (A.ext y d ho hd) hd gb hD j _ hb (by omega) D0 s.2 (fun ag aD aP=>vA N (ek u y i) (y:Int) u D0 K n aP ag aD)
   have eq:vA N (ek u y i) (y:Int) u D0 K (n+1) s.1 s.2 (j:Int)=xx N s.1 (y:Int) u (ek u y i) (j:Int) D0 s.2 (fun ag aD aP=>vA N (ek u y i) (y:Int) u D0 K n aP ag aD):=by
    show(bif decide ((j:Int)<((ek u y i).length:Int))then _ else _)=_
    rw [decide_eq_true (by omega)];rfl
   rcases E with E | ⟨o',c',e1,e2,e3,e4,e5⟩
   · exact .inl (by show vP u _;rw [eq];exact E)
   · refine .inr ⟨(o',c'),⟨A.trans e2,fun m hm b cG=> ?_⟩,eq.trans e1⟩
     by_cases e:m=j
     · subst e
       have:(ek u y i)[m]=b:=by rw [List.getElem?_eq_getElem hj]at cG;exact Option.some.inj cG
       subst this;exact⟨e3,e4,e5⟩
     · obtain⟨f1,f2,f3⟩:=F m (by omega) b cG
       exact⟨f1,e2.ext _ _ f2 f3,f3⟩) N 0 (out,ch) ⟨kv.refl I,fun m h=>by omega⟩ (Nat.zero_le _) (by omega)
 rcases L with L | ⟨n',s,⟨A,F⟩,e⟩
 · exact .inl L
 · rw [show((0:Nat):Int)=0 from rfl]at e
   have e2:vA N (ek u y i) (y:Int) u D0 K (n'+1) s.1 s.2 ((ek u y i).length:Int)=AF N u (y:Int) s.1 D0 s.2 K:=by
    show(bif decide (((ek u y i).length:Int)<((ek u y i).length:Int))then _ else _)=_
    rw [decide_eq_false (Int.lt_irrefl _)];rfl
   rw [e,e2]
   rcases avG U N hN y i hi s.1 A.di d hD D0 s.2 K with E | ⟨o',c',g1,g2,g3⟩
   · exact .inl E
   · refine .inr ⟨o',c',g1,A.trans g2,fun d' i' h1 h2 x hx=> ?_⟩
     rw [hi]at h2;cases h2
     have hdd:o'[y]? =some d:=g2.ext y d (A.ext y d ho hd) hd
     rw [hdd]at h1;cases h1
     have all:∀b∈ek u y i,¬pP y i b∧s.1[b.toNat]? =some (iX i d b)∧0≤iX i d b:=fun b hb=>by
      obtain⟨m,hm,e⟩:=List.mem_iff_getElem.1 hb
      exact F m hm b (by rw [List.getElem?_eq_getElem hm,e])
     have ht:¬pP y i x.1:=fun ht=>(all x.1 (avE ht.2.1)).1 ht
     rcases avA (d:=d) hx ht with⟨_,h4,h5⟩ | ⟨h4,h5,h6,g,h7,h8⟩
     · obtain⟨_,f2,f3⟩:=all x.1 h4
       rw [h5];exact⟨g2.ext _ _ f2 f3,f3⟩
     · have e0:jR i.aI d x.2=0:=by unfold jR;rw [if_pos h4]
       rw [e0,←h8]
       exact⟨g3 h5 g h6 h7,Int.le_refl 0⟩
end
end Go.Ve.T
namespace Go.Ve.T
open Go.Ve
noncomputable section
open Classical
theorem avJ {u:ak}(U:fq u) (N:Nat) (hN:1000≤N) (out:List Int) (I:DI u out []) (D0:aN) (K:Bool→List Int→Option aN) :
    vP u (AJ N out u D0 K)∨∃o c,AJ N out u D0 K=K c o∧kv u out false o c∧(c=false→∀(y:Nat) d,out[y]? =some d→0≤d→tQ u out y):=by
  have hl:=U.n1.2.1
  unfold AJ
  have L:=Yv (fun n (s:List Int×Bool) y=>oO N u D0 K n s.1 s.2 y) u.ae.length
    (fun i s=>kv u out false s.1 s.2∧(s.2=false→∀(y:Nat),y<i→∀d,out[y]? =some d→0≤d→tQ u out y)) (vP u) (fun n y s hy hI=>by
      obtain⟨A,F⟩:=hI
      have Yx:y<s.1.length:=by rw [A.di.len];exact hy
      obtain⟨d,hd⟩:∃d,s.1[y]? =some d:=⟨_,List.getElem?_eq_getElem Yx⟩
      have eq:oO N u D0 K (n+1) s.1 s.2 (y:Int)=Dr N s.1 (y:Int) s.2 u D0 (fun ag aD aP=>oO N u D0 K n aP ag aD):=by
        show(bif decide ((y:Int)<(s.1.length:Int))then _ else _)=_
        rw [decide_eq_true (by omega)];rfl
      have Yy:Dr N s.1 (y:Int) s.2 u D0 (fun ag aD aP=>oO N u D0 K n aP ag aD)=bif decide (d<0)then oO N u D0 K n s.1 s.2 ((y:Int)+1)else AI N u (y:Int) s.1 D0 s.2 (fun ag aD aP=>oO N u D0 K n aP ag aD):=by
        unfold Dr xu
        rw [iB,hd,Option.bind_some,jY (by omega) (by omega)]
      by_cases hn:d<0
      · refine .inr ⟨s,⟨A,fun hc z hz d' h1 h2=> ?_⟩,by show oO N u D0 K (n+1) s.1 s.2 (y:Int)=_;rw [eq,Yy,decide_eq_true hn];rfl⟩
        by_cases e:z=y
        · subst e
          rw [(A.same hc).2]at hd
          rw [hd]at h1;cases h1;omega
        · exact F hc z (by omega) d' h1 h2
      · obtain⟨gb,hD⟩:d≤40∧jo u y d:=by
          rcases A.di.tP y d hd with e | ⟨_,h4,h5⟩
          · omega
          · exact⟨h4,h5⟩
        have hi:u.ae[y]? =some u.ae[y]:=List.getElem?_eq_getElem hy
        rcases avI U N hN y _ hi s.1 A.di d hd (by omega) gb hD D0 s.2 (fun ag aD aP=>oO N u D0 K n aP ag aD)with E | ⟨o',c',e1,e2,e3⟩
        · refine .inl ?_
          show vP u (oO N u D0 K (n+1) s.1 s.2 (y:Int))
          rw [eq,Yy,decide_eq_false hn];exact E
        · refine .inr ⟨(o',c'),⟨A.trans e2,fun hc z hz d' h1 h2=> ?_⟩,by show oO N u D0 K (n+1) s.1 s.2 (y:Int)=_;rw [eq,Yy,decide_eq_false hn];exact e1⟩
          obtain⟨wN,ho2⟩:=e2.same hc
          have hs:=(A.same wN).2
          by_cases e:z=y
          · subst e
            rw [ho2,hs]at e3;exact e3
          · exact F wN z (by omega) d' h1 h2) N 0 (out,false) ⟨kv.refl I,fun _ y h=>by omega⟩ (Nat.zero_le _) (by omega)
  rcases L with L | ⟨n',s,⟨A,F⟩,e⟩
  · exact .inl L
  · refine .inr ⟨s.1,s.2, ?_,A,fun hc y d h h0=>F hc y (by rw [←I.len];exact(List.getElem?_eq_some_iff.1 h).1) d h h0⟩
    refine Eq.trans e ?_
    show(bif decide ((u.ae.length:Int)<(s.1.length:Int))then _ else K s.2 s.1)=_
    rw [A.di.len,decide_eq_false (Int.lt_irrefl _)];rfl
theorem ahC {u:ak}(U:fq u) (N:Nat) (hN:1000≤N) (D0:aN):∀(n:Nat) (out:List Int),DI u out []→out[0]? =some 0→open_ out+1<n→
 vP u (tt N u D0 n out true)∨∃o,tt N u D0 n out true=some (aN.mk o 0)∧DI u o []∧(∀(y:Nat) d,o[y]? =some d→0≤d→tQ u o y)∧o[0]? =some 0
 | 0,out,_,_,h=>by omega
 | n+1,out,I,h0,h=>by
  have eq:tt N u D0 (n+1) out true=AJ N out u D0 (fun ag aP=>tt N u D0 n aP ag):=rfl
  rw [eq]
  rcases avJ U N hN out I D0 (fun ag aP=>tt N u D0 n aP ag)with E | ⟨o,c,e1,A,F⟩
  · exact .inl E
  · rw [e1]
    have ho:=A.ext 0 0 h0 (Int.le_refl 0)
    cases c with
    | true =>
     have bJ:open_ o<open_ out:=(A.lt rfl).elim (fun h=>by cases h) id
     exact ahC U N hN D0 n o A.di ho (by omega)
    | false =>
     have e:=(A.same rfl).2
     subst e
     obtain⟨m,rfl⟩:∃m,n=m+1:=⟨n-1,by omega⟩
     exact .inr ⟨o,rfl,I,F rfl,h0⟩
theorem ahD {u:ak}(U:fq u) (N:Nat) (hN:1000≤N) :
 (∃out,xb N u=some (aN.mk out 0)∧DZ u out∧Good u)∨(xb N u=some (aN.mk [] 12)∧¬Good u):=by
 have hl:=U.n1.2.1
 have z:=U.n1
 unfold xb
 rw [Ox N hN,Option.bind_some,U.pl]
 show(∃out,AL N u (aN.mk [] 0)=_∧_)∨(AL N u (aN.mk [] 0)=_∧_)
 generalize aN.mk [] 0=D0
 have e:∃s:List Int,AL N u D0=tt N u D0 N (s.set 0 0) true∧s.length=u.ae.length∧∀m,m<u.ae.length→s[m]? =some (-1):=by
  unfold AL
  have:(decide (0≤(u.ae.length:Int))&&decide ((u.ae.length:Int)≤65536))=true:=by simp;omega
  rw [this]
  obtain⟨n1,s1,i1,e1⟩:=ahf (fun n (s:List Int) y=>AK N u D0 n s y) u.ae.length
   (fun i s=>s.length=u.ae.length∧∀m,m<u.ae.length→s[m]? =some (if m<i then-1 else 0)) (fun n i s hi hI=>by
    obtain⟨h1,h2⟩:=hI
    refine⟨s.set i (-1),⟨by simpa using h1,fun m hm=> ?_⟩, ?_⟩
    · rw [List.getElem?_set]
      by_cases e:i=m
      · subst e;rw [if_pos rfl,if_pos (by omega),if_pos (by omega)]
      · rw [if_neg e,h2 m hm]
        by_cases h3:m<i
        · rw [if_pos h3,if_pos (by omega)]
        · rw [if_neg h3,if_neg (by omega)]
    · show(bif decide ((i:Int)<(s.length:Int))then((ix s (i:Int)).bind fun eb=>AK N u D0 n (s.set (i:Int).toNat (-1)) (bD .i64 ((i:Int)+1)))else _)=_
      rw [h1,decide_eq_true (by omega),iB,h2 i hi,jY (by omega) (by omega)];rfl) N 0 (List.replicate u.ae.length 0) ⟨by simp,fun m hm=>by rw [List.getElem?_replicate,if_pos hm,if_neg (by omega)]⟩ (Nat.zero_le _) (by omega)
  refine⟨s1, ?_,i1.1,fun m hm=>by rw [i1.2 m hm,if_pos hm]⟩
  show AK N u D0 N (List.replicate u.ae.length 0) ((0:Nat):Int)=_
  rw [e1]
  show(bif decide ((u.ae.length:Int)<(s1.length:Int))then _ else HS N s1 u D0)=_
  rw [i1.1,decide_eq_false (Int.lt_irrefl _),cond_false]
  unfold HS
  rw [show ix s1 0=s1[0]? from rfl,i1.2 0 (by omega)];rfl
 obtain⟨s,e1,sy,qV⟩:=e
 rw [e1]
 have Cf:(s.set 0 0)[0]? =some 0:=by rw [List.getElem?_set,if_pos rfl,if_pos (by omega)]
 have aY:open_ (s.set 0 0)≤u.ae.length:=by
  unfold open_
  refine Nat.le_trans List.countP_le_length ?_
  rw [List.length_set,sy];exact Nat.le_refl _
 have L:=ahC U N hN D0 N (s.set 0 0) ⟨by simpa using sy,fun y d h=>by
  rw [List.getElem?_set]at h
  by_cases hy:0=y
  · subst hy
    rw [if_pos rfl,if_pos (by omega)]at h
    cases h;exact .inr ⟨Int.le_refl 0,by omega,jo.start⟩
  · rw [if_neg hy]at h
    have hyl:y<u.ae.length:=by rw [←sy];exact(List.getElem?_eq_some_iff.1 h).1
    rw [qV y hyl]at h;cases h;exact .inl rfl,fun x hx=>(by cases hx)⟩ Cf (by omega)
 rcases L with⟨L1,L2⟩ | ⟨o,e2,I,C,h0⟩
 · exact .inr ⟨L1,L2⟩
 · obtain⟨D,G⟩:=aho I.len I.tP C h0
   exact .inl ⟨o,e2,D,G⟩
end
end Go.Ve.T
namespace Go.Ve.T
open Go.Ve
open Classical
noncomputable section
theorem ahK {l:List Int}(h:l.Nodup):(fS l []).length=l.length:=((aeg h (ry (l:=[]) .nil).nd fun x=>by rw [pG];simp).length_eq).symm
theorem ahL {l m:List Int}(hl:l.Nodup) (hm:m.Nodup) (h:∀x∈l,x∈m):l.length≤m.length∧(l.length=m.length→∀x∈m,x∈l):=by
 have h1:=Yo (ry (xs:=l) .nil) (ry (xs:=m) .nil) fun x hx=>pG.2 (.inl (h x ((pG.1 hx).resolve_right (by simp))))
 rw [ahK hl,ahK hm]at h1
 refine⟨h1.1,fun e x hx=> ?_⟩
 have:=h1.2 e
 exact((pG (xs:=l) (l:=[])).1 (this▸pG.2 (.inl hx))).resolve_right (by simp)
structure RS (u:ak) (a:List (List Int)):Prop where
 li:LI u a
 nd:∀y,(a.getD y []).Nodup
theorem RS.IY {u:ak}(U:fq u){a:List (List Int)}(H:RS u a) (y:Nat):(a.getD y []).length≤2*u.ae.length :=
 Nat.le_trans (ahL (H.nd y) (yu u.ae).1.nd fun s hs=>(H.li.snd y s hs).univ).1 (yu u.ae).2.1
theorem RS.sm {u:ak}(U:fq u) (gb:u.ae.length≤40){a:List (List Int)}(H:RS u a):Sm a:=fun y=>Nat.le_trans (H.IY U y) (by omega)
theorem RS.iJ {u:ak}(U:fq u){a:List (List Int)}(H:RS u a):iJ a≤u.ae.length*(2*u.ae.length):=by
 have:=Yr (a:=a) (m:=2*u.ae.length) fun l hl=>by
  obtain⟨k,hk,e⟩:=List.mem_iff_getElem.1 hl
  have:=H.IY U k
  rw [List.getD_eq_getElem?_getD,List.getElem?_eq_getElem hk,e]at this
  exact this
 rwa [H.li.len]at this
theorem YE {u:ak}(U:fq u) (gb:u.ae.length≤40) (N:Nat) (hN:4000≤N) (K:Bool→List (List Int)→Option (List (List Int))):∀(m n:Nat) (a:List (List Int)) (c:Bool),RS u a→m≤u.ae.length→m<n→
 ∃a' c',xJ N u K n a c ((m:Int)-1)=K c' a'∧RS u a'∧iJ a≤iJ a'∧(c'=true→c=true∨iJ a<iJ a')∧(c'=false→c=false∧a'=a∧∀y i,y<m→u.ae[y]? =some i→∀s∈lr u a y i,s∈a.getD y [])
 | m,0,a,c,_,_,h=>by omega
 | 0,n+1,a,c,H,_,_=>⟨a,c,by
  show AU N a u c _ K _=_
  unfold AU
  rw [decide_eq_false (by omega)];rfl,H,Nat.le_refl _,.inl,fun h=>⟨h,rfl,fun y i h=>by omega⟩⟩
 | m+1,n+1,a,c,H,hm,hn=>by
  have kX:=U.n1
  have hy:m<u.ae.length:=by omega
  have hi:u.ae[m]? =some u.ae[m]:=List.getElem?_eq_getElem hy
  have zY:m<a.length:=by rw [H.li.len];exact hy
  have Gg:=H.sm U gb
  have e:xJ N u K (n+1) a c (((m+1:Nat):Int)-1)=if (lR u a m u.ae[m]).length=(a.getD m []).length then xJ N u K n a c ((m:Int)-1)else xJ N u K n (a.set m (lR u a m u.ae[m])) true ((m:Int)-1):=by
   show AU N a u c _ K _=_
   unfold AU
   rw [show(((m+1:Nat):Int)-1)=(m:Int) by omega,decide_eq_true (by omega),cond_true,avP U gb N hN Gg H.li.len hy]
  rw [e]
  have YF:=avO Gg H.li hi
  have hnd:=avN (u:=u) Gg m u.ae[m] (H.nd m)
  have sub:=ahL (H.nd m) hnd fun s hs=>(YF s).2 (H.li.grow m _ hi s hs)
  by_cases h:(lR u a m u.ae[m]).length=(a.getD m []).length
  · rw [if_pos h]
    obtain⟨a',c',h1,h2,h3,h4,h5⟩:=YE U gb N hN K m n a c H (by omega) (by omega)
    refine⟨a',c',h1,h2,h3,h4,fun hc=> ?_⟩
    obtain⟨h6,h7,h8⟩:=h5 hc
    refine⟨h6,h7,fun y i hy' dK s hs=> ?_⟩
    by_cases Gf:y=m
    · subst Gf
      rw [hi]at dK;cases dK
      exact sub.2 h.symm s ((YF s).2 hs)
    · exact h8 y i (by omega) dK s hs
  · rw [if_neg h]
    have H':RS u (a.set m (lR u a m u.ae[m])):=⟨H.li.set hi YF,fun y=>by
     rw [uP a m y _ zY]
     split
     · exact hnd
     · exact H.nd y⟩
    have ht:=Yq (a:=a) (y:=m) (l:=lR u a m u.ae[m]) zY
    have bJ:=sub.1
    obtain⟨a',c',h1,h2,h3,h4,h5⟩:=YE U gb N hN K m n _ true H' (by omega) (by omega)
    exact⟨a',c',h1,h2,by omega,fun _=>.inr (by omega),fun hc=>by have:=(h5 hc).1;cases this⟩
theorem ahM {u:ak}(U:fq u) (gb:u.ae.length≤40) (N:Nat) (hN:4000≤N):∀(n k:Nat) (a:List (List Int)),a.length=u.ae.length→(∀j,j<k→a[j]? =some (yw u j))→(∀j,k≤j→(a.getD j []).Nodup∧(a.getD j []).length≤80∧∀s,s∈a.getD j []↔r9 u j s)→k≤u.ae.length→u.ae.length<n+k→Il N (u.ae.length:Int) n a (k:Int)=some (oX u)
 | 0,k,a,_,_,_,h1,h2=>by omega
 | n+1,k,a,ha,hd,ho,h1,h2=>by
  have hn:=U.n1
  show Ij N _ a (k:Int) _=_
  unfold Ij NW NV NY
  by_cases hk:k<u.ae.length
  · obtain⟨o1,o2,o3⟩:=ho k (Nat.le_refl _)
    have tT:k<a.length:=by omega
    have e:fS (a.getD k []) []=yw u k:=eA.ext (ry .nil) (ahs u k) fun s=>by rw [pG,ahr,←o3 s];simp
    rw [yx k _ hk,tR tT,Option.bind_some,avK N hN _ (by omega) o1,Option.bind_some,Option.bind_some,e,vN k (by omega),cond_true,Int.toNat_natCast]
    refine ahM U gb N hN n (k+1) _ (by simpa using ha) (fun j hj=> ?_) (fun j hj=> ?_) hk (by omega)
    · rw [List.getElem?_set]
      by_cases e:k=j
      · subst e;rw [if_pos rfl,if_pos tT]
      · rw [if_neg e];exact hd j (by omega)
    · rw [uP a k j _ tT,if_neg (by omega)]
      exact ho j (by omega)
  · have:k=u.ae.length:=by omega
    subst this
    rw [vO]
    show some a=_
    refine congrArg some (List.ext_getElem? fun y=> ?_)
    by_cases hy:y<u.ae.length
    · rw [aht hy,hd y hy]
    · rw [List.getElem?_eq_none (by omega),List.getElem?_eq_none (by rw [OA];omega)]
theorem ahN {u:ak}(U:fq u) (gb:u.ae.length≤40) (N:Nat) (hN:4000≤N):∀(n:Nat) (a:List (List Int)),RS u a→u.ae.length*(2*u.ae.length)+2≤n+iJ a→xK N (u.ae.length:Int) u n a true=some (oX u)
 | 0,a,H,h=>by have:=H.iJ U;omega
 | n+1,a,H,h=>by
  have hn:=U.n1
  show Ii N (u.ae.length:Int) a u (fun ag aP=>xK N (u.ae.length:Int) u n aP ag)=_
  unfold Ii
  rw [jY (by omega) (by omega)]
  obtain⟨a',c',h1,h2,h3,h4,h5⟩:=YE U gb N hN (fun ag aP=>xK N (u.ae.length:Int) u n aP ag) u.ae.length N a false H (Nat.le_refl _) (by omega)
  rw [h1]
  have ht:=H.iJ U
  cases c' with
  | true =>
   have h6:iJ a<iJ a':=(h4 rfl).resolve_left (by simp)
   exact ahN U gb N hN n a' h2 (by omega)
  | false =>
   obtain⟨_,rfl,h8⟩:=h5 rfl
   obtain⟨m,rfl⟩:∃m,n=m+1:=⟨n-1,by omega⟩
   show Im N (u.ae.length:Int) a'=_
   unfold Im
   have F:=H.li.fin U fun y i hi s hs=>h8 y i (List.getElem?_eq_some_iff.1 hi).1 hi s hs
   exact ahM U gb N hN N 0 a' H.li.len (fun j hj=>absurd hj (Nat.not_lt_zero _)) (fun j _=>⟨H.nd j,H.sm U gb j,F j⟩) (Nat.zero_le _) (by omega)
theorem avU {u:ak}(U:fq u) (gb:u.ae.length≤40) (N:Nat) (hN:4000≤N):zP N u=some (oX u):=by
 have hn:=U.n1
 have hq:u.ae.length*(2*u.ae.length)≤40*(2*40):=Nat.mul_le_mul gb (Nat.mul_le_mul (Nat.le_refl 2) gb)
 unfold zP NZ
 rw [Ox N (by omega),U.pl,Option.bind_some]
 show gu (decide _&&decide _) _=_
 rw [decide_eq_true (show(0:Int)≤(u.ae.length:Int) by omega),decide_eq_true (show(u.ae.length:Int)≤65536 by omega)]
 show xK N (u.ae.length:Int) u N (List.replicate (u.ae.length:Int).toNat ([]:List Int)) true=_
 rw [Int.toNat_natCast]
 refine ahN U gb N hN N _ ⟨LI.start u,fun y=> ?_⟩ (by omega)
 rw [List.getD_eq_getElem?_getD,List.getElem?_replicate]
 split<;>exact List.nodup_nil
theorem ahO (N:Nat) (a:List (List Int)) (ha:a.length<1000000) (hN:a.length<N) (hl:∀l∈a,l.length<1000000∧l.length<N):CN N a a=some true:=by
 unfold CN N9
 simp only [decide_true,Bool.not_true,cond_false]
 exact Yu a.length (fun n i=>IE N a a n (i:Int)) (some true) (fun n i hi=>by
  show Be N _ _ _ _=_
  unfold Be N8 N7
  have h:=hl a[i] (List.getElem_mem hi)
  rw [yx i _ hi,iB,List.getElem?_eq_getElem hi,Option.bind_some,Option.bind_some,OH N _ h.1 h.2,vN i (by omega)];rfl) (fun n=>by
  show Be N _ _ _ _=_
  unfold Be
  rw [vO];rfl) N 0 (Nat.zero_le _) (by omega)
theorem avV {u:ak}{a b:List Int}(A:DZ u a) (B:DZ u b) (G:Good u):a=b:=by
 refine List.ext_getElem? fun y=> ?_
 by_cases hy:y<u.ae.length
 · have h1:y<a.length:=by rw [A.1];exact hy
   have h2:y<b.length:=by rw [B.1];exact hy
   have e1:a[y]? =some a[y]:=List.getElem?_eq_getElem h1
   have e2:b[y]? =some b[y]:=List.getElem?_eq_getElem h2
   rw [e1,e2]
   rcases A.2 y _ e1 with⟨h3,h4⟩ | ⟨_,_,h4⟩
   · rcases B.2 y _ e2 with⟨h5,_⟩ | ⟨_,_,h6⟩
     · rw [h3,h5]
     · exact absurd h6 (h4 _)
   · rcases B.2 y _ e2 with⟨_,h6⟩ | ⟨_,_,h6⟩
     · exact absurd h4 (h6 _)
     · rw [(G y _ h4).2 _ h6]
 · rw [List.getElem?_eq_none (by rw [A.1];omega),List.getElem?_eq_none (by rw [B.1];omega)]
theorem avW {u:ak}{b:Bool}(h:zQ u=some b) (hb:b=true):u.ae.length≤40∨600<u.ae.length:=by
 subst hb
 by_cases h1:(u.ae.length:Int)≤40
 · exact .inl (by omega)
 · by_cases h2:600<(u.ae.length:Int)
   · exact .inr (by omega)
   · unfold zQ Ao at h
     rw [decide_eq_false h1,decide_eq_false h2]at h
     cases h
theorem ai6 (N:Nat) (hN:4000≤N) (u:ak):MQ N u=some true:=by
 have kX:1000≤N:=by omega
 unfold MQ
 obtain⟨b,hb⟩:=avX u
 rw [hb]
 show(bif !b then _ else _)=_
 cases b with
 | false=>rfl
 | true =>
  show Gp N u true=_
  unfold Gp Gn Gm
  cases hp:r7 u with
  | false =>
   have e1:xa N u=some ([],1):=by unfold xa;rw [Ow N kX,hp];rfl
   have e2:xb N u=some ⟨[],1⟩:=by unfold xb;rw [Ox N kX,hp];rfl
   have e3:zO N u=some []:=by unfold zO;rw [Ow N kX,hp];rfl
   have e4:zP N u=some []:=by unfold zP;rw [Ox N kX,hp];rfl
   rw [e1,e2,e3,e4]
   simp only [Option.bind_some]
   rw [OH N [] (by simp) (by simp;omega),ahO N [] (by simp) (by simp;omega) (fun l h=>by cases h)];rfl
  | true =>
   have U:fq u:=⟨hp⟩
   have hn:=U.n1
   have gb:u.ae.length≤40:=(avW hb rfl).resolve_right (by omega)
   have hq:u.ae.length*(2*u.ae.length)≤40*(2*40):=Nat.mul_le_mul gb (Nat.mul_le_mul (Nat.le_refl 2) gb)
   have SL:CN N (oX u) (oX u)=some true:=ahO N _ (by rw [OA];omega) (by rw [OA];omega) fun l hl=>by
    unfold oX at hl
    obtain⟨y,_,rfl⟩:=List.mem_map.1 hl
    have:=avq u y;omega
   rw [avw U N kX (by omega),avU U gb N hN]
   simp only [Option.bind_some,SL]
   rcases avx U N kX with⟨o1,h1,h2,h3⟩ | ⟨h1,h2⟩
   · rcases ahD U N kX with⟨o2,h4,h5,h6⟩ | ⟨h4,h5⟩
     · have e:=avV h2 h5 h3
       subst e
       rw [h1,h4]
       simp only [Option.bind_some]
       rw [OH N _ (by rw [h2.1];omega) (by rw [h2.1];omega)];rfl
     · exact absurd h3 h5
   · rcases ahD U N kX with⟨o2,h4,h5,h6⟩ | ⟨h4,h5⟩
     · exact absurd h6 h2
     · rw [h1,h4]
       simp only [Option.bind_some]
       rw [OH N [] (by simp) (by simp;omega)];rfl
end
end Go.Ve.T
