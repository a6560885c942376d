/- Part 19: The closed run of the chapter's examples of layer 8, by the evaluator, in the kernel: 'head' returns true, and changes nothing of what was there, where the table of powers of ten is as the library lays it. No other condition. And more. -/
import Derived.Test.YteeibihhdldjfaaGreatDoorVeR
import Derived.Lib.LaidTab
set_option linter.unusedVariables false
set_option linter.unusedSimpArgs false
namespace Go.Ve.T
open Go.Ve Go.Proofs Go.RowKit
noncomputable section
set_option maxRecDepth 100000
def gF (k:Nat):lv:=(c7 PP k).getD ⟨0,[],.skip,false⟩
abbrev g (k:Nat):Option lv:=some (gF k)
theorem g1 {k:Nat}(h:(c7 PP k).isSome=true):∀a,g k=some a→c7 PP k=some a:=fun a e=>by
 cases e
 cases hc:c7 PP k with
 | none=>rw [hc]at h;cases h
 | some x=>unfold gF;rw [hc];rfl
def UR:List Value:=FT.map fun r=>.tuple ⟨[.agg ⟨r⟩,.bool true]⟩
def ay2 (vs:List Value) (h:AH) (k:CR→AH→Bool):Bool:=a1 vs fun v=>pN v fun kd n=>iff (jE kd .i64) (Int.casesOn (motive:=fun _=>Bool) n (fun n=>iff (Nat.ble 1 n&&Nat.ble n 34)
 (vT UR n fun c=>k (.ret c) h)) tC)
def US:List Value:=FT.flatten
def ay3 (vs:List Value) (h:AH) (k:CR→AH→Bool):Bool:=a0 vs (k (.ret (.agg ⟨US⟩)) h)
def sums:Aw:=[(84,ay2),(120,ay3),(67,alU),(198,alV),(109,alW)]
def ad0:NT lv:=(.n (.n (.n (.n (.n (.n (.n (.n .e (g 127) .e) (g 63) (.n .e (g 191) .e)) (g 31) (.n (.n .e (g 159) .e) (g 95) .e)) (g 15) (.n (.n (.n .e (g 143) .e) (g 79) (.n .e (g 207) .e)) (g 47) (.n .e (g 111) .e))) (g 7) (.n (.n (.n (.n .e (g 135) .e) (g 71) (.n .e (g 199) .e)) (g 39) (.n .e (g 103) .e)) (g 23) (.n (.n (.n .e (g 151) .e) (g 87) (.n .e (g 215) .e)) (g 55) (.n (.n .e (g 183) .e) (g 119) .e)))) (g 3) (.n (.n (.n (.n (.n .e (g 131) .e) (g 67) .e) (g 35) (.n (.n .e (g 163) .e) (g 99) .e)) (g 19) (.n (.n (.n .e (g 147) .e) (g 83) (.n .e (g 211) .e)) (g 51) (.n (.n .e (g 179) .e) (g 115) .e))) (g 11) (.n (.n (.n (.n .e (g 139) .e) (g 75) .e) (g 43) (.n (.n .e (g 171) .e) (g 107) .e)) (g 27) (.n (.n (.n .e (g 155) .e) (g 91) .e) (g 59) (.n (.n .e (g 187) .e) (g 123) .e))))) none (.n (.n (.n (.n (.n (.n .e (g 129) .e) (g 65) (.n .e (g 193) .e)) (g 33) (.n (.n .e (g 161) .e) (g 97) .e)) (g 17) (.n (.n (.n .e (g 145) .e) (g 81) (.n .e (g 209) .e)) (g 49) (.n (.n .e (g 177) .e) (g 113) .e))) (g 9) (.n (.n (.n (.n .e (g 137) .e) (g 73) (.n .e (g 201) .e)) (g 41) (.n (.n .e (g 169) .e) (g 105) .e)) (g 25) (.n (.n (.n .e (g 153) .e) (g 89) (.n .e (g 217) .e)) (g 57) (.n (.n .e (g 185) .e) (g 121) .e)))) (g 5) (.n (.n (.n (.n (.n .e (g 133) .e) (g 69) (.n .e (g 197) .e)) (g 37) (.n (.n .e (g 165) .e) (g 101) .e)) (g 21) (.n (.n (.n .e (g 149) .e) (g 85) (.n .e (g 213) .e)) (g 53) (.n (.n .e (g 181) .e) (g 117) .e))) (g 13) (.n (.n (.n (.n .e (g 141) .e) (g 77) (.n .e (g 205) .e)) (g 45) (.n (.n .e (g 173) .e) (g 109) .e)) (g 29) (.n (.n (.n .e (g 157) .e) (g 93) .e) (g 61) (.n (.n .e (g 189) .e) (g 125) .e)))))) none (.n (.n (.n (.n (.n (.n (.n .e (g 128) .e) (g 64) (.n .e (g 192) .e)) (g 32) (.n (.n .e (g 160) .e) (g 96) .e)) (g 16) (.n (.n (.n .e (g 144) .e) (g 80) (.n .e (g 208) .e)) (g 48) (.n (.n .e (g 176) .e) (g 112) .e))) (g 8) (.n (.n (.n (.n .e (g 136) .e) (g 72) (.n .e (g 200) .e)) (g 40) (.n (.n .e (g 168) .e) (g 104) .e)) (g 24) (.n (.n (.n .e (g 152) .e) (g 88) (.n .e (g 216) .e)) (g 56) (.n (.n .e (g 184) .e) (g 120) .e)))) (g 4) (.n (.n (.n (.n (.n .e (g 132) .e) (g 68) (.n .e (g 196) .e)) (g 36) (.n (.n .e (g 164) .e) (g 100) .e)) (g 20) (.n (.n (.n .e (g 148) .e) (g 84) (.n .e (g 212) .e)) (g 52) (.n (.n .e (g 180) .e) (g 116) .e))) (g 12) (.n (.n (.n (.n .e (g 140) .e) (g 76) (.n .e (g 204) .e)) (g 44) (.n (.n .e (g 172) .e) (g 108) .e)) (g 28) (.n (.n (.n .e (g 156) .e) (g 92) .e) (g 60) (.n .e (g 124) .e))))) none (.n (.n (.n (.n (.n (.n .e (g 130) .e) (g 66) (.n .e (g 194) .e)) (g 34) (.n (.n .e (g 162) .e) (g 98) .e)) (g 18) (.n (.n (.n .e (g 146) .e) (g 82) (.n .e (g 210) .e)) (g 50) (.n (.n .e (g 178) .e) (g 114) .e))) (g 10) (.n (.n (.n (.n .e (g 138) .e) (g 74) (.n .e (g 202) .e)) (g 42) (.n (.n .e (g 170) .e) (g 106) .e)) (g 26) (.n (.n (.n .e (g 154) .e) (g 90) (.n .e (g 218) .e)) (g 58) (.n (.n .e (g 186) .e) (g 122) .e)))) (g 6) (.n (.n (.n (.n (.n .e (g 134) .e) (g 70) (.n .e (g 198) .e)) (g 38) (.n (.n .e (g 166) .e) (g 102) .e)) (g 22) (.n (.n (.n .e (g 150) .e) (g 86) (.n .e (g 214) .e)) (g 54) (.n (.n .e (g 182) .e) (g 118) .e))) (g 14) (.n (.n (.n (.n .e (g 142) .e) (g 78) (.n .e (g 206) .e)) (g 46) (.n (.n .e (g 174) .e) (g 110) .e)) (g 30) (.n (.n (.n .e (g 158) .e) (g 94) .e) (g 62) (.n (.n .e (g 190) .e) (g 126) .e)))))))
theorem ay4:∀f af,ad0.get f=some af→c7 PP f=some af:=NT.holds (Q:=fun f af=>c7 PP f=some af) (t:=ad0) ⟨NT.no,⟨NT.no,⟨g1 (by kernel_rfl),⟨g1 (by kernel_rfl),⟨g1 (by kernel_rfl),⟨g1 (by kernel_rfl),⟨g1 (by kernel_rfl),⟨g1 (by kernel_rfl),trivial,trivial⟩,⟨g1 (by kernel_rfl),trivial,trivial⟩⟩,⟨g1 (by kernel_rfl),⟨g1 (by kernel_rfl),trivial,trivial⟩,trivial⟩⟩,⟨g1 (by kernel_rfl),⟨g1 (by kernel_rfl),⟨g1 (by kernel_rfl),trivial,trivial⟩,⟨g1 (by kernel_rfl),trivial,trivial⟩⟩,⟨g1 (by kernel_rfl),trivial,trivial⟩⟩⟩,⟨g1 (by kernel_rfl),⟨g1 (by kernel_rfl),⟨g1 (by kernel_rfl),⟨g1 (by kernel_rfl),trivial,trivial⟩,⟨g1 (by kernel_rfl),trivial,trivial⟩⟩,⟨g1 (by kernel_rfl),trivial,trivial⟩⟩,⟨g1 (by kernel_rfl),⟨g1 (by kernel_rfl),⟨g1 (by kernel_rfl),trivial,trivial⟩,⟨g1 (by kernel_rfl),trivial,trivial⟩⟩,⟨g1 (by kernel_rfl),⟨g1 (by kernel_rfl),trivial,trivial⟩,trivial⟩⟩⟩⟩,⟨g1 (by kernel_rfl),⟨g1 (by kernel_rfl),⟨g1 (by kernel_rfl),⟨g1 (by kernel_rfl),⟨g1 (by kernel_rfl),trivial,trivial⟩,trivial⟩,⟨g1 (by kernel_rfl),⟨g1 (by kernel_rfl),trivial,trivial⟩,trivial⟩⟩,⟨g1 (by kernel_rfl),⟨g1 (by kernel_rfl),⟨g1 (by kernel_rfl),trivial,trivial⟩,⟨g1 (by kernel_rfl),trivial,trivial⟩⟩,⟨g1 (by kernel_rfl),⟨g1 (by kernel_rfl),trivial,trivial⟩,trivial⟩⟩⟩,⟨g1 (by kernel_rfl),⟨g1 (by kernel_rfl),⟨g1 (by kernel_rfl),⟨g1 (by kernel_rfl),trivial,trivial⟩,trivial⟩,⟨g1 (by kernel_rfl),⟨g1 (by kernel_rfl),trivial,trivial⟩,trivial⟩⟩,⟨g1 (by kernel_rfl),⟨g1 (by kernel_rfl),⟨g1 (by kernel_rfl),trivial,trivial⟩,trivial⟩,⟨g1 (by kernel_rfl),⟨g1 (by kernel_rfl),trivial,trivial⟩,trivial⟩⟩⟩⟩⟩,⟨g1 (by kernel_rfl),⟨g1 (by kernel_rfl),⟨g1 (by kernel_rfl),⟨g1 (by kernel_rfl),⟨g1 (by kernel_rfl),⟨g1 (by kernel_rfl),trivial,trivial⟩,⟨g1 (by kernel_rfl),trivial,trivial⟩⟩,⟨g1 (by kernel_rfl),⟨g1 (by kernel_rfl),trivial,trivial⟩,trivial⟩⟩,⟨g1 (by kernel_rfl),⟨g1 (by kernel_rfl),⟨g1 (by kernel_rfl),trivial,trivial⟩,⟨g1 (by kernel_rfl),trivial,trivial⟩⟩,⟨g1 (by kernel_rfl),⟨g1 (by kernel_rfl),trivial,trivial⟩,trivial⟩⟩⟩,⟨g1 (by kernel_rfl),⟨g1 (by kernel_rfl),⟨g1 (by kernel_rfl),⟨g1 (by kernel_rfl),trivial,trivial⟩,⟨g1 (by kernel_rfl),trivial,trivial⟩⟩,⟨g1 (by kernel_rfl),⟨g1 (by kernel_rfl),trivial,trivial⟩,trivial⟩⟩,⟨g1 (by kernel_rfl),⟨g1 (by kernel_rfl),⟨g1 (by kernel_rfl),trivial,trivial⟩,⟨g1 (by kernel_rfl),trivial,trivial⟩⟩,⟨g1 (by kernel_rfl),⟨g1 (by kernel_rfl),trivial,trivial⟩,trivial⟩⟩⟩⟩,⟨g1 (by kernel_rfl),⟨g1 (by kernel_rfl),⟨g1 (by kernel_rfl),⟨g1 (by kernel_rfl),⟨g1 (by kernel_rfl),trivial,trivial⟩,⟨g1 (by kernel_rfl),trivial,trivial⟩⟩,⟨g1 (by kernel_rfl),⟨g1 (by kernel_rfl),trivial,trivial⟩,trivial⟩⟩,⟨g1 (by kernel_rfl),⟨g1 (by kernel_rfl),⟨g1 (by kernel_rfl),trivial,trivial⟩,⟨g1 (by kernel_rfl),trivial,trivial⟩⟩,⟨g1 (by kernel_rfl),⟨g1 (by kernel_rfl),trivial,trivial⟩,trivial⟩⟩⟩,⟨g1 (by kernel_rfl),⟨g1 (by kernel_rfl),⟨g1 (by kernel_rfl),⟨g1 (by kernel_rfl),trivial,trivial⟩,⟨g1 (by kernel_rfl),trivial,trivial⟩⟩,⟨g1 (by kernel_rfl),⟨g1 (by kernel_rfl),trivial,trivial⟩,trivial⟩⟩,⟨g1 (by kernel_rfl),⟨g1 (by kernel_rfl),⟨g1 (by kernel_rfl),trivial,trivial⟩,trivial⟩,⟨g1 (by kernel_rfl),⟨g1 (by kernel_rfl),trivial,trivial⟩,trivial⟩⟩⟩⟩⟩⟩,⟨NT.no,⟨g1 (by kernel_rfl),⟨g1 (by kernel_rfl),⟨g1 (by kernel_rfl),⟨g1 (by kernel_rfl),⟨g1 (by kernel_rfl),⟨g1 (by kernel_rfl),trivial,trivial⟩,⟨g1 (by kernel_rfl),trivial,trivial⟩⟩,⟨g1 (by kernel_rfl),⟨g1 (by kernel_rfl),trivial,trivial⟩,trivial⟩⟩,⟨g1 (by kernel_rfl),⟨g1 (by kernel_rfl),⟨g1 (by kernel_rfl),trivial,trivial⟩,⟨g1 (by kernel_rfl),trivial,trivial⟩⟩,⟨g1 (by kernel_rfl),⟨g1 (by kernel_rfl),trivial,trivial⟩,trivial⟩⟩⟩,⟨g1 (by kernel_rfl),⟨g1 (by kernel_rfl),⟨g1 (by kernel_rfl),⟨g1 (by kernel_rfl),trivial,trivial⟩,⟨g1 (by kernel_rfl),trivial,trivial⟩⟩,⟨g1 (by kernel_rfl),⟨g1 (by kernel_rfl),trivial,trivial⟩,trivial⟩⟩,⟨g1 (by kernel_rfl),⟨g1 (by kernel_rfl),⟨g1 (by kernel_rfl),trivial,trivial⟩,⟨g1 (by kernel_rfl),trivial,trivial⟩⟩,⟨g1 (by kernel_rfl),⟨g1 (by kernel_rfl),trivial,trivial⟩,trivial⟩⟩⟩⟩,⟨g1 (by kernel_rfl),⟨g1 (by kernel_rfl),⟨g1 (by kernel_rfl),⟨g1 (by kernel_rfl),⟨g1 (by kernel_rfl),trivial,trivial⟩,⟨g1 (by kernel_rfl),trivial,trivial⟩⟩,⟨g1 (by kernel_rfl),⟨g1 (by kernel_rfl),trivial,trivial⟩,trivial⟩⟩,⟨g1 (by kernel_rfl),⟨g1 (by kernel_rfl),⟨g1 (by kernel_rfl),trivial,trivial⟩,⟨g1 (by kernel_rfl),trivial,trivial⟩⟩,⟨g1 (by kernel_rfl),⟨g1 (by kernel_rfl),trivial,trivial⟩,trivial⟩⟩⟩,⟨g1 (by kernel_rfl),⟨g1 (by kernel_rfl),⟨g1 (by kernel_rfl),⟨g1 (by kernel_rfl),trivial,trivial⟩,⟨g1 (by kernel_rfl),trivial,trivial⟩⟩,⟨g1 (by kernel_rfl),⟨g1 (by kernel_rfl),trivial,trivial⟩,trivial⟩⟩,⟨g1 (by kernel_rfl),⟨g1 (by kernel_rfl),⟨g1 (by kernel_rfl),trivial,trivial⟩,trivial⟩,⟨g1 (by kernel_rfl),trivial,trivial⟩⟩⟩⟩⟩,⟨g1 (by kernel_rfl),⟨g1 (by kernel_rfl),⟨g1 (by kernel_rfl),⟨g1 (by kernel_rfl),⟨g1 (by kernel_rfl),⟨g1 (by kernel_rfl),trivial,trivial⟩,⟨g1 (by kernel_rfl),trivial,trivial⟩⟩,⟨g1 (by kernel_rfl),⟨g1 (by kernel_rfl),trivial,trivial⟩,trivial⟩⟩,⟨g1 (by kernel_rfl),⟨g1 (by kernel_rfl),⟨g1 (by kernel_rfl),trivial,trivial⟩,⟨g1 (by kernel_rfl),trivial,trivial⟩⟩,⟨g1 (by kernel_rfl),⟨g1 (by kernel_rfl),trivial,trivial⟩,trivial⟩⟩⟩,⟨g1 (by kernel_rfl),⟨g1 (by kernel_rfl),⟨g1 (by kernel_rfl),⟨g1 (by kernel_rfl),trivial,trivial⟩,⟨g1 (by kernel_rfl),trivial,trivial⟩⟩,⟨g1 (by kernel_rfl),⟨g1 (by kernel_rfl),trivial,trivial⟩,trivial⟩⟩,⟨g1 (by kernel_rfl),⟨g1 (by kernel_rfl),⟨g1 (by kernel_rfl),trivial,trivial⟩,⟨g1 (by kernel_rfl),trivial,trivial⟩⟩,⟨g1 (by kernel_rfl),⟨g1 (by kernel_rfl),trivial,trivial⟩,trivial⟩⟩⟩⟩,⟨g1 (by kernel_rfl),⟨g1 (by kernel_rfl),⟨g1 (by kernel_rfl),⟨g1 (by kernel_rfl),⟨g1 (by kernel_rfl),trivial,trivial⟩,⟨g1 (by kernel_rfl),trivial,trivial⟩⟩,⟨g1 (by kernel_rfl),⟨g1 (by kernel_rfl),trivial,trivial⟩,trivial⟩⟩,⟨g1 (by kernel_rfl),⟨g1 (by kernel_rfl),⟨g1 (by kernel_rfl),trivial,trivial⟩,⟨g1 (by kernel_rfl),trivial,trivial⟩⟩,⟨g1 (by kernel_rfl),⟨g1 (by kernel_rfl),trivial,trivial⟩,trivial⟩⟩⟩,⟨g1 (by kernel_rfl),⟨g1 (by kernel_rfl),⟨g1 (by kernel_rfl),⟨g1 (by kernel_rfl),trivial,trivial⟩,⟨g1 (by kernel_rfl),trivial,trivial⟩⟩,⟨g1 (by kernel_rfl),⟨g1 (by kernel_rfl),trivial,trivial⟩,trivial⟩⟩,⟨g1 (by kernel_rfl),⟨g1 (by kernel_rfl),⟨g1 (by kernel_rfl),trivial,trivial⟩,trivial⟩,⟨g1 (by kernel_rfl),⟨g1 (by kernel_rfl),trivial,trivial⟩,trivial⟩⟩⟩⟩⟩⟩⟩
set_option maxHeartbeats 0 in
theorem ay5:ev ad0 sums 1000000 (.call 12 [] ⟨0,.e⟩ fun r _=>match r with | .ret (.bool b)=>b | _=>false)=true:=by kernel_rfl
theorem anq {P:Program}{f:FuncId}{args:List Value}{args':Array Value}{c:Value}{w:World}(hl:LR (fun _=>none) args args'.toList) (hc:Fw c c=true) (H:WF P w f args ⟨0,.e⟩ fun r _=>r= .ret c):
 Calls P f args' w fun e w'=>e= .returned c∧Below w.heap.size w w':=by
 refine(H.2 (fun _=>none) args' w hl (HR.bare P w)).mono fun E w' hR=>?_
 obtain⟨r,h',φ',h1,h2,h3,h4,h5⟩:=hR
 have hr:= @of_decide_eq_true _ (Classical.propDecidable _) h1
 subst hr
 obtain⟨v',rfl,hv⟩:=h5
 exact⟨by rw [(Me hc φ').2 v' hv],h4.below⟩
theorem ay6:UR.all (fun c=>Fw c c)=true:=by kernel_rfl
theorem ay7:∀n:Nat,1≤n→n≤34→UR[n]? =some (.tuple ⟨[.agg ⟨yQ n⟩,.bool (isOp n)]⟩):=fun n h1 h2=>by
 have hi:isOp n=true:=by unfold isOp;rw [decide_eq_true_eq];omega
 obtain⟨x,x1,x2,_,_⟩:=amN (i:=n) (by omega)
 have vR:yQ (n:Int)=x:=by unfold yQ;rw [hi,if_pos rfl];exact x2
 unfold UR
 rw [List.getElem?_map,x1,vR,hi];rfl
theorem anr {P:Program}{w0 w:World}{nm:String}{k:IntKind}{zs:List Int}(hb:Below w0.heap.size w0 w) (ht:Lib.TabIs P w0 nm k zs):Lib.TabIs P w nm k zs:=by
 unfold Lib.TabIs World.var? at ht ⊢
 cases hg:P.globalNamed nm with
 | none=>rw [hg]at ht;cases ht
 | some g=>
  rw [hg]at ht
  simp only [Option.bind_some]at ht ⊢
  cases ho:w0.heap[g]? with
  | none=>rw [ho]at ht;cases ht
  | some o=>rw [hb.block g (Array.getElem?_eq_some_iff.1 ho).1];exact ht
theorem IM {k:Nat}(h:(c7 PP k).isSome=true):Can PP k:=by
 obtain⟨_,_,_,h,_⟩:=abI (g1 h (gF k) rfl)
 exact h
theorem ay8 {w0 : World} (ht : Lib.TabIs PP w0 "internal/strconv.uint64pow10" .u64 Lib.pow10Tab) : Td PP w0 sums := by
 intro p hp
 simp only [sums,List.mem_cons,List.not_mem_nil,or_false]at hp
 rcases hp with rfl | rfl | rfl | rfl | rfl
 · refine Mc (IM (by kernel_rfl)) fun args h k φ args' w e hl H=>?_
   obtain⟨L,hL⟩:∃L,args'.toList=L:=⟨_,rfl⟩
   rw [hL]at hl
   obtain⟨v,rfl,e1⟩:=iU e
   obtain⟨kd,n,rfl,e2⟩:=tt e1
   obtain⟨e3,e4⟩:=dX e2
   obtain rfl:=uO e3
   cases n with
   | negSucc n=>cases e4
   | ofNat n=>
    obtain⟨e5,e6⟩:=dX (show iff (Nat.ble 1 n&&Nat.ble n 34) _=true from e4)
    rw [Bool.and_eq_true]at e5
    have n1:=Nat.le_of_ble_eq_true e5.1
    have n2:=Nat.le_of_ble_eq_true e5.2
    obtain⟨c,hc,e7⟩:=Mg _ e6
    have hp:=List.all_eq_true.1 ay6 c (List.mem_of_getElem? hc)
    rw [ay7 n n1 n2]at hc
    cases hc
    cases hl with
    | cons _ v' _ l' h1 h2=>
     cases h2
     obtain rfl:=h1.lj
     have oV:args'= #[.int .i64 (Int.ofNat n)]:=by apply Array.ext';rw [hL]
     subst oV
     exact⟨_,_,(Me hp φ).1,e7,anq (.cons _ _ _ _ (.int _ _) .nil) hp (amO (n:Int) fun h' _ _=>rfl)⟩
 · refine Mc (IM (by kernel_rfl)) fun args h k φ args' w e hl H=>?_
   have e1:args=[]∧k (.ret (.agg ⟨US⟩)) h=true:=by
    cases args with
    | nil=>exact⟨rfl,e⟩
    | cons _ _=>cases e
   obtain⟨rfl,e1⟩:=e1
   have oV:args'= #[]:=by
    cases kS:args'.toList with
    | nil=>simpa using kS
    | cons _ _=>rw [kS]at hl;cases hl
   subst oV
   have hp:Fw (.agg ⟨US⟩) (.agg ⟨US⟩)=true:=by kernel_rfl
   exact⟨_,_,(Me hp φ).1,e1,anq .nil hp (amL fun h' _ _=>rfl)⟩
 · exact axx (IM (by kernel_rfl)) fun n w h0 h1 hb=>(Any.strconv_Itoa ay9 n h0 h1 w (anr hb ht)).mono fun e w' ⟨he,k,os,hw⟩=>⟨he,hw▸Lib.below_grow _ w (Nat.le_refl _) k os⟩
 · exact axy (IM (by kernel_rfl)) fun s n w hl h=>(Any.strconv_Atoi aza s n hl h w).mono fun e w' ⟨he,t,hw⟩=>⟨he,hw▸Lib.bytesWorld_below w _ t⟩
 · exact axz (IM (by kernel_rfl)) fun bk o c xs sep w h1 h2 h3 h4 h5=>Any.strings_Join azb azc bk o c xs sep w h1 h2 h3 h4 h5
theorem azd {w0 : World} (ht : Lib.TabIs PP w0 "internal/strconv.uint64pow10" .u64 Lib.pow10Tab) (h : AH) (R : CR → AH → Prop) (hR : R (.ret (.bool true)) h) : WF PP w0 abb [] h R := by
 refine⟨IM (by kernel_rfl),fun φ args' w hl hh=>?_⟩
 have he:args'= #[]:=by
  cases kS:args'.toList with
  | nil=>simpa using kS
  | cons _ _=>rw [kS]at hl;cases hl
 subst he
 have hC:lz PP w 12 [] ⟨0,.e⟩ (fun r _=>match r with | .ret (.bool b)=>b | _=>false):=ak5 cq ay4 (ay8 (anr hh.below ht)) _ _ ay5
 refine Calls.mono (hC.2 (fun _=>none) #[] w .nil (HR.bare PP w)) fun E w' hE=>?_
 obtain⟨r,h',φ',h1,h2,h3,h4,h5⟩:=hE
 refine⟨.ret (.bool true),h,φ, @decide_eq_true _ (Classical.propDecidable _) hR,Ext.refl _ _,Nat.le_refl _,HR.behind hh h4.below,?_⟩
 cases r with
 | bC v=>cases h1
 | ret v=>
  obtain⟨v',rfl,hv⟩:=h5
  cases v with
  | bool b=>
   have hb:b=true:=h1
   subst hb
   exact⟨v',rfl,by rw [hv.yi];exact .bool _⟩
  | _=>cases h1
end
end Go.Ve.T
namespace Go.Ve.T
open Go.Ve Go.Proofs
class fQ (w0:World):Prop where
 t : Lib.TabIs PP w0 "internal/strconv.uint64pow10" .u64 Lib.pow10Tab
def ans:Option Bool:=some true
theorem aze {w0:World}[T8:fQ w0] {g h:AH}{Q:CR→AH→Prop}{r:Bool}(sg:Sub g h) (ok:h.Ok) (M:ans=some r) (H:∀(g' h':AH),Sep ⟨g,h,[]⟩ g' h' []→Q (.ret (.bool r)) h'):WF PP w0 abb [] h Q:=by
 cases M
 exact azd T8.t h Q (H g h (Sep.start sg ok))
end Go.Ve.T
namespace Go.Ve.T
open Go.Ve Go.Proofs
noncomputable section
set_option maxRecDepth 10000
def UT (N:Nat) (iw:Int) (A9:aO) (tP:Int→Option Bool):Option Bool:=
 tP (bN .i64 (iw+1))
def UU (N:Nat) (v1:aO) (iw:Int) (tP:Int→Option Bool):Option Bool:=
(ix v1.bp iw).bind fun cv=>
(MK cv).bind fun ML=>
 bif (!ML)then(
 some false)else(
 UT N iw v1 tP)
def UW (N:Nat) (eW:Int) (oo:aO) (oq:Int→Option Bool):Option Bool:=
 oq (bN .i64 (eW+1))
def MM (N:Nat) (eW:Int) (jI:Bool) (oo:aO) (oq:Int→Option Bool):Option Bool:=
 bif jI then(
 some false)else(
 UW N eW oo oq)
def UX (N:Nat) (v1:aO) (eW:Int) (oq:Int→Option Bool):Option Bool:=
(ix v1.bE eW).bind fun Ba=>
 bif (decide (80<(Ba.kV.length:Int)))then(
 MM N eW true v1 oq)else(
(ix v1.bE eW).bind fun IP=>
 MM N eW (decide (500<(IP.gh.length:Int))) v1 oq)
def IQ (N:Nat) (v1:aO) (gK:Bool)  :Option Bool:=
 bif gK then(
 some (decide ((v1.bp.length:Int)≤500)))else(
 some false)
def IS (N:Nat) (v1:aO) (v31:Bool)  :Option Bool:=
 bif v31 then(
 bif (decide ((v1.bp.length:Int)≤12))then(
 IQ N v1 true)else(
 IQ N v1 (decide (400<(v1.bp.length:Int)))))else(
 IQ N v1 false)
def IT (N:Nat) (v1:aO) (eN:Bool)  :Option Bool:=
 bif eN then(
 IS N v1 (decide ((v1.bw.length:Int)≤500)))else(
 IS N v1 false)
def IU (N:Nat) (v1:aO) (b9:Bool)  :Option Bool:=
 bif b9 then(
 bif (decide ((v1.bw.length:Int)≤12))then(
 IT N v1 true)else(
 IT N v1 (decide (400<(v1.bw.length:Int)))))else(
 IT N v1 false)
def MN (N:Nat) (v1:aO) (v10:Bool)  :Option Bool:=
 bif v10 then(
 IU N v1 (decide ((v1.bE.length:Int)≤80)))else(
 IU N v1 false)
def MO (N:Nat) (v1:aO)  :Option Bool:=
 bif (decide ((v1.bE.length:Int)≤8))then(
 MN N v1 true)else(
 MN N v1 (decide (60<(v1.bE.length:Int))))
def CT (N:Nat) (v1:aO) (eW:Int) (oq:Int→Option Bool):Option Bool:=
 bif (decide (eW<(v1.bE.length:Int)))then(
 UX N v1 eW oq)else(
 MO N v1)
def MP (N:Nat) (v1:aO)  :Nat→Int→Option Bool | 0,_=>none | n+1,eW=>CT N v1 eW  (fun ar=>MP N v1 n ar)
def MQ (N:Nat) (v1:aO)  :Option Bool:=
 MP N v1 N 0
def CU (N:Nat) (v1:aO) (iw:Int) (tP:Int→Option Bool):Option Bool:=
 bif (decide (iw<(v1.bp.length:Int)))then(
 UU N v1 iw tP)else(
 MQ N v1)
def MR (N:Nat) (v1:aO)  :Nat→Int→Option Bool | 0,_=>none | n+1,iw=>CU N v1 iw  (fun ar=>MR N v1 n ar)
def MS (N:Nat) (x0:aO):Option Bool:=
 MR N x0 N 0
abbrev qy (c:Cx) (R:ZZF) (r:Bool):Prop:=∀(g' h':AH),Sep c g' h' []→R (.bool r) h'
theorem azB {w0:World} [fQ w0] {c g h E R r N iw A9 anD ad2 ad3 ad4 tl tP CV}(M:UT N iw A9 tP=some r)(S:Sep c g h [.bx anD (ZZB A9 ad2 ad3 ad4)])(aI9:aa aZ.rep 4 g ad2 A9.bE)(aJa:aa bD.rep 4 g ad3 A9.bw)(aJb:aa ae.rep 7 g ad4 A9.bp)(MT:Sub CV g)(MU:∀{ar:Int}{g2 h2:AH},tP ar=some r→Sub CV g2→Sep c g2 h2 [.bx anD (ZZB A9 ad2 ad3 ad4)]→tl (vi ar) h2)(H:qy c R r):aaL w0 E R (vi iw) tl h:=by
 unfold aaL;unfold UT at M;refine gE.2 ?_;exact MU M MT S
theorem azC {w0:World} [fQ w0] {c g h E R r N v1 iw av aA az aR tl tP CV}(M:UU N v1 iw tP=some r)(S:Sep c g h [.bx av (ZZB v1 aA az aR)])(aH:aa aZ.rep 4 g aA v1.bE)(aG:aa bD.rep 4 g az v1.bw)(aS:aa ae.rep 7 g aR v1.bp)(MT:Sub CV g)(MU:∀{ar:Int}{g2 h2:AH},tP ar=some r→Sub CV g2→Sep c g2 h2 [.bx av (ZZB v1 aA az aR)]→tl (vi ar) h2)(H:qy c R r):aaM w0 E R (ak av 0) (vi iw) tl h:=by
 unfold aaM;unfold UU at M;refine aQ.2 (S.aP 0 rfl rfl ?_);obtain⟨cv,nS,M⟩:=bind_some M;refine aa.idx aS nS (fun MV o_5 vs azD MW rp=>?_);obtain⟨UY,UZ,rfl,zh,CW⟩:=rp;refine S.iX MW rfl (by decide) ?_;obtain⟨ML,ad5,M⟩:=bind_some M;refine azE ad5 S.sub S.ok zh CW (fun _ h  S1  =>?_);have S:=S.dz S1;refine dZ.2 (bR (fun hc=>?_) (fun hc=>?_))
 · have M:=aV hc M;cases M;exact H _ _  S.bO
 · have M:=aX hc M;exact azB M S aH aG aS MT MU H
theorem azF {w0:World} [fQ w0] {c g h E R r N eW oo MX FQ FR FU oU oq xo}(M:UW N eW oo oq=some r)(S:Sep c g h [.bx MX (ZZB oo FQ FR FU)])(anE:aa aZ.rep 4 g FQ oo.bE)(anF:aa bD.rep 4 g FR oo.bw)(anG:aa ae.rep 7 g FU oo.bp)(CX:Sub xo g)(CY:∀{ar:Int}{g2 h2:AH},oq ar=some r→Sub xo g2→Sep c g2 h2 [.bx MX (ZZB oo FQ FR FU)]→oU (vi ar) h2)(H:qy c R r):aaH w0 E R (vi eW) oU h:=by
 unfold aaH;unfold UW at M;refine gE.2 ?_;exact CY M CX S
theorem anH {w0:World} [fQ w0] {c g h E R r N eW jI oo MX FQ FR FU oU oq xo}(M:MM N eW jI oo oq=some r)(S:Sep c g h [.bx MX (ZZB oo FQ FR FU)])(anE:aa aZ.rep 4 g FQ oo.bE)(anF:aa bD.rep 4 g FR oo.bw)(anG:aa ae.rep 7 g FU oo.bp)(CX:Sub xo g)(CY:∀{ar:Int}{g2 h2:AH},oq ar=some r→Sub xo g2→Sep c g2 h2 [.bx MX (ZZB oo FQ FR FU)]→oU (vi ar) h2)(H:qy c R r):aaI w0 E R (vi eW) oU (.bool jI) h:=by
 unfold aaI;unfold MM at M;refine bR (fun hc=>?_) (fun hc=>?_)
 · have M:=aV hc M;cases M;exact H _ _  S.bO
 · have M:=aX hc M;exact azF M S anE anF anG CX CY H
theorem azG {w0:World} [fQ w0] {c g h E R r N v1 eW av aA az aR oU oq xo}(M:UX N v1 eW oq=some r)(S:Sep c g h [.bx av (ZZB v1 aA az aR)])(aH:aa aZ.rep 4 g aA v1.bE)(aG:aa bD.rep 4 g az v1.bw)(aS:aa ae.rep 7 g aR v1.bp)(CX:Sub xo g)(CY:∀{ar:Int}{g2 h2:AH},oq ar=some r→Sub xo g2→Sep c g2 h2 [.bx av (ZZB v1 aA az aR)]→oU (vi ar) h2)(H:qy c R r):aaJ w0 E R (ak av 0) (vi eW) oU h:=by
 unfold aaJ;unfold UX at M;refine aQ.2 (S.aP 0 rfl rfl ?_);obtain⟨Ba,ad6,M⟩:=bind_some M;refine aa.idx aH ad6 (fun azH aJc vs aJd azI rp=>?_);obtain⟨aJe,aJf,rfl,azJ,aJg⟩:=rp;refine aQ.2 (S.dK (azI 1 _ rfl) (azJ.len (kT.2 ?_)));cases hc:(decide (80<(Ba.kV.length:Int)))
 · have M:=aX hc M;refine au rfl (aQ.2 (au rfl (S.aP 0 rfl rfl (au rfl (au rfl ?_)))));obtain⟨IP,ad7,M⟩:=bind_some M;refine aa.idx aH ad7 (fun aJh aJi vs aJj azK rp=>?_);obtain⟨aJk,aJl,rfl,aJm,azL⟩:=rp;refine au rfl (aQ.2 (au rfl (S.dK (azK 2 _ rfl) (au rfl (azL.len (au rfl (kT.2 (aW.2 ?_))))))));exact anH M S aH aG aS CX CY H
 · have M:=aV hc M;repeat refine ax (by decide) ?_;refine aW.2 ?_;exact anH M S aH aG aS CX CY H
theorem ad8 {w0:World} [fQ w0] {c g h E R r N v1 gK av aA az aR}  (M:IQ N v1 gK=some r)(S:Sep c g h [.bx av (ZZB v1 aA az aR)])(aH:aa aZ.rep 4 g aA v1.bE)(aG:aa bD.rep 4 g az v1.bw)(aS:aa ae.rep 7 g aR v1.bp)  (H:qy c R r):aaB w0 E R (ak av 0) (.bool gK) h:=by
 unfold aaB;unfold IQ at M;cases hc:gK
 · have M:=aX hc M;repeat refine ax (by decide) ?_;refine aW.2 ?_;cases M;exact H _ _  S.bO
 · have M:=aV hc M;refine au rfl (aQ.2 (au rfl (S.aP 0 rfl rfl (au rfl (aS.len (au rfl (o8.2 (aW.2 ?_))))))));cases M;exact H _ _  S.bO
theorem anI {w0:World}[fQ w0] {c:Cx}{g h:AH}{E R:Value→W}{r:Bool}{N:Nat}{v1:aO}{v31:Bool}{av:Nat}{aA az aR:Value}  (M:IS N v1 v31=some r) (S:Sep c g h [.bx av [aA,az,aR,vi v1.bo,vi v1.bn]]) (aH:aa aZ.rep 4 g aA v1.bE) (aG:aa bD.rep 4 g az v1.bw) (aS:aa ae.rep 7 g aR v1.bp)  (H:qy c R r):aaC w0 E R (ak av 0) (.bool v31) h:=by
 unfold aaC;unfold IS at M;cases hc:v31
 · have M:=aX hc M;refine ax (by decide) ?_;refine ax (by decide) ?_;refine ax (by decide) ?_;refine ax (by decide) ?_;refine ax (by decide) ?_;refine dQ ?_;refine dQ ?_;refine dQ ?_;refine dQ ?_;refine ax (by decide) ?_;refine aW.2 ?_;exact ad8 M S aH aG aS H
 · have M:=aV hc M;refine au rfl ?_;refine aQ.2 ?_;refine au rfl ?_;refine S.aP 0 rfl rfl ?_;refine au rfl ?_;refine aS.len ?_;refine au rfl ?_;refine o8.2 ?_;refine au rfl ?_;cases hc:(decide ((v1.bp.length:Int)≤12))
   · have M:=aX hc M;refine au rfl ?_;refine aQ.2 ?_;refine au rfl ?_;refine S.aP 0 rfl rfl ?_;refine au rfl ?_;refine aS.len ?_;refine au rfl ?_;refine kT.2 ?_;refine au rfl ?_;refine aW.2 ?_;refine aW.2 ?_;exact ad8 M S aH aG aS H
   · have M:=aV hc M;refine ax (by decide) ?_;refine ax (by decide) ?_;refine ax (by decide) ?_;refine ax (by decide) ?_;refine au rfl ?_;refine aW.2 ?_;refine aW.2 ?_;exact ad8 M S aH aG aS H
theorem ad9 {w0:World} [fQ w0] {c g h E R r N v1 eN av aA az aR}  (M:IT N v1 eN=some r)(S:Sep c g h [.bx av (ZZB v1 aA az aR)])(aH:aa aZ.rep 4 g aA v1.bE)(aG:aa bD.rep 4 g az v1.bw)(aS:aa ae.rep 7 g aR v1.bp)  (H:qy c R r):aaD w0 E R (ak av 0) (.bool eN) h:=by
 unfold aaD;unfold IT at M;cases hc:eN
 · have M:=aX hc M;repeat refine ax (by decide) ?_;refine aW.2 ?_;exact anI M S aH aG aS H
 · have M:=aV hc M;refine au rfl (aQ.2 (au rfl (S.aP 0 rfl rfl (au rfl (aG.len (au rfl (o8.2 (aW.2 ?_))))))));exact anI M S aH aG aS H
theorem anJ {w0:World}[fQ w0] {c:Cx}{g h:AH}{E R:Value→W}{r:Bool}{N:Nat}{v1:aO}{b9:Bool}{av:Nat}{aA az aR:Value}  (M:IU N v1 b9=some r) (S:Sep c g h [.bx av [aA,az,aR,vi v1.bo,vi v1.bn]]) (aH:aa aZ.rep 4 g aA v1.bE) (aG:aa bD.rep 4 g az v1.bw) (aS:aa ae.rep 7 g aR v1.bp)  (H:qy c R r):aaE w0 E R (ak av 0) (.bool b9) h:=by
 unfold aaE;unfold IU at M;cases hc:b9
 · have M:=aX hc M;refine ax (by decide) ?_;refine ax (by decide) ?_;refine ax (by decide) ?_;refine ax (by decide) ?_;refine ax (by decide) ?_;refine dQ ?_;refine dQ ?_;refine dQ ?_;refine dQ ?_;refine ax (by decide) ?_;refine aW.2 ?_;exact ad9 M S aH aG aS H
 · have M:=aV hc M;refine au rfl ?_;refine aQ.2 ?_;refine au rfl ?_;refine S.aP 0 rfl rfl ?_;refine au rfl ?_;refine aG.len ?_;refine au rfl ?_;refine o8.2 ?_;refine au rfl ?_;cases hc:(decide ((v1.bw.length:Int)≤12))
   · have M:=aX hc M;refine au rfl ?_;refine aQ.2 ?_;refine au rfl ?_;refine S.aP 0 rfl rfl ?_;refine au rfl ?_;refine aG.len ?_;refine au rfl ?_;refine kT.2 ?_;refine au rfl ?_;refine aW.2 ?_;refine aW.2 ?_;exact ad9 M S aH aG aS H
   · have M:=aV hc M;refine ax (by decide) ?_;refine ax (by decide) ?_;refine ax (by decide) ?_;refine ax (by decide) ?_;refine au rfl ?_;refine aW.2 ?_;refine aW.2 ?_;exact ad9 M S aH aG aS H
theorem anK {w0:World} [fQ w0] {c g h E R r N v1 v10 av aA az aR}  (M:MN N v1 v10=some r)(S:Sep c g h [.bx av (ZZB v1 aA az aR)])(aH:aa aZ.rep 4 g aA v1.bE)(aG:aa bD.rep 4 g az v1.bw)(aS:aa ae.rep 7 g aR v1.bp)  (H:qy c R r):aaF w0 E R (ak av 0) (.bool v10) h:=by
 unfold aaF;unfold MN at M;cases hc:v10
 · have M:=aX hc M;repeat refine ax (by decide) ?_;refine aW.2 ?_;exact anJ M S aH aG aS H
 · have M:=aV hc M;refine au rfl (aQ.2 (au rfl (S.aP 0 rfl rfl (au rfl (aH.len (au rfl (o8.2 (aW.2 ?_))))))));exact anJ M S aH aG aS H
theorem azM {w0:World} [fQ w0] {c g h E R r N v1 av aA az aR}  (M:MO N v1=some r)(S:Sep c g h [.bx av (ZZB v1 aA az aR)])(aH:aa aZ.rep 4 g aA v1.bE)(aG:aa bD.rep 4 g az v1.bw)(aS:aa ae.rep 7 g aR v1.bp)  (H:qy c R r):aaG w0 E R (ak av 0) h:=by
 unfold aaG;unfold MO at M;refine aQ.2 (S.aP 0 rfl rfl (aH.len (o8.2 ?_)));cases hc:(decide ((v1.bE.length:Int)≤8))
 · have M:=aX hc M;refine au rfl (aQ.2 (au rfl (S.aP 0 rfl rfl (au rfl (aH.len (au rfl (kT.2 (aW.2 ?_))))))));exact anK M S aH aG aS H
 · have M:=aV hc M;repeat refine ax (by decide) ?_;refine aW.2 ?_;exact anK M S aH aG aS H
theorem azN {w0:World} [fQ w0] {c g h E R r N v1 eW av aA az aR oU oq xo}(M:CT N v1 eW oq=some r)(S:Sep c g h [.bx av (ZZB v1 aA az aR)])(aH:aa aZ.rep 4 g aA v1.bE)(aG:aa bD.rep 4 g az v1.bw)(aS:aa ae.rep 7 g aR v1.bp)(CX:Sub xo g)(CY:∀{ar:Int}{g2 h2:AH},oq ar=some r→Sub xo g2→Sep c g2 h2 [.bx av (ZZB v1 aA az aR)]→oU (vi ar) h2)(H:qy c R r):Sn w0 E R (ak av 0) oU (vi eW) h:=by
 unfold Sn;unfold CT at M;refine aQ.2 (S.aP 0 rfl rfl (aH.len (fj.2 (bR (fun hc=>?_) (fun hc=>?_)))))
 · have M:=aV hc M;exact azG M S aH aG aS CX CY H
 · have M:=aX hc M;exact azM M S aH aG aS H
theorem azO {w0:World} [fQ w0] {c E R r N v1 av aA az aR}   (H:qy c R r):∀(n:Nat){eW:Int}{g h:AH},MP N v1 n eW=some r→Sep c g h [.bx av (ZZB v1 aA az aR)]→aa aZ.rep 4 g aA v1.bE→aa bD.rep 4 g az v1.bw→aa ae.rep 7 g aR v1.bp→gg (α:=Z) (fun k a=>Sn w0 E R (ak av 0) k a) n (vi eW) h:=by
 intro n
 induction n with
 | zero=>
  intro eW  g h M S aH aG aS ;unfold MP at M;cases M
 | succ n ih=>
  intro eW  g h M S aH aG aS ;exact azN M S aH aG aS  (Sub.refl g) (fun M2 sub S2  =>ih M2 S2 (aa.mono aH aZ.mono sub) (aa.mono aG bD.mono sub) (aa.mono aS ae.mono sub)) H
theorem azP {w0:World} [fQ w0] {c g h E R r N v1 av aA az aR}  (M:MQ N v1=some r)(S:Sep c g h [.bx av (ZZB v1 aA az aR)])(aH:aa aZ.rep 4 g aA v1.bE)(aG:aa bD.rep 4 g az v1.bw)(aS:aa ae.rep 7 g aR v1.bp)  (H:qy c R r):aaK w0 E R (ak av 0) h:=by
 unfold aaK;unfold MQ at M;exact⟨N,azO  H _ M S aH aG aS⟩
theorem azQ {w0:World} [fQ w0] {c g h E R r N v1 iw av aA az aR tl tP CV}(M:CU N v1 iw tP=some r)(S:Sep c g h [.bx av (ZZB v1 aA az aR)])(aH:aa aZ.rep 4 g aA v1.bE)(aG:aa bD.rep 4 g az v1.bw)(aS:aa ae.rep 7 g aR v1.bp)(MT:Sub CV g)(MU:∀{ar:Int}{g2 h2:AH},tP ar=some r→Sub CV g2→Sep c g2 h2 [.bx av (ZZB v1 aA az aR)]→tl (vi ar) h2)(H:qy c R r):Sp w0 E R (ak av 0) tl (vi iw) h:=by
 unfold Sp;unfold CU at M;refine aQ.2 (S.aP 0 rfl rfl (aS.len (fj.2 (bR (fun hc=>?_) (fun hc=>?_)))))
 · have M:=aV hc M;exact azC M S aH aG aS MT MU H
 · have M:=aX hc M;exact azP M S aH aG aS H
theorem azR {w0:World} [fQ w0] {c E R r N v1 av aA az aR}   (H:qy c R r):∀(n:Nat){iw:Int}{g h:AH},MR N v1 n iw=some r→Sep c g h [.bx av (ZZB v1 aA az aR)]→aa aZ.rep 4 g aA v1.bE→aa bD.rep 4 g az v1.bw→aa ae.rep 7 g aR v1.bp→gg (α:=Z) (fun k a=>Sp w0 E R (ak av 0) k a) n (vi iw) h:=by
 intro n
 induction n with
 | zero=>
  intro iw  g h M S aH aG aS ;unfold MR at M;cases M
 | succ n ih=>
  intro iw  g h M S aH aG aS ;exact azQ M S aH aG aS  (Sub.refl g) (fun M2 sub S2  =>ih M2 S2 (aa.mono aH aZ.mono sub) (aa.mono aG bD.mono sub) (aa.mono aS ae.mono sub)) H
theorem azS {w0:World} [fQ w0] {g h Q r N x0 cw cx iY}(M:MS N x0=some r)(sg:Sub g h)(ok:h.Ok)(cg:aa aZ.rep 4 g cw x0.bE)(cz:aa bD.rep 4 g cx x0.bw)(jF:aa ae.rep 7 g iY x0.bp)(H:qy ⟨g,h,[]⟩ (fun v=>Q (.ret v)) r):WF PP w0 aaN [(.agg ⟨(ZZB x0 cw cx iY)⟩)] h Q:=by
 refine aub _ ?_;have S:=Sep.start sg ok;unfold aiR;unfold MS at M;refine S.box (ZZB x0 cw cx iY) rfl (ag cg.one (ag cz.one (ag jF.one (ag rfl (ag rfl rfl))))) (fun jN h S=>?_);exact⟨N,azR  H _ M S cg cz jF⟩
def U0 (N:Nat) (iT:Int) (U1:List Bool) (ji:ae) (mY:aO) (tQ:Int→(List Bool)→Option Bool):Option Bool:=
 tQ (bN .i64 (iT+1)) U1
def U2 (N:Nat) (ct:List Bool) (iT:Int) (ji:ae) (mY:aO) (tQ:Int→(List Bool)→Option Bool):Option Bool:=
(ix ct iT).bind fun FV=>
 U0 N iT (ct.set iT.toNat true) ji mY tQ
def IV (N:Nat) (dw:Int) (j6:ae) (j7:ae) (iB:Int→Option Bool):Option Bool:=
 iB (bN .i64 (dw+1))
def MY (N:Nat) (dw:Int) (v109:Bool) (j6:ae) (j7:ae) (iB:Int→Option Bool):Option Bool:=
 bif v109 then(
 some false)else(
 IV N dw j6 j7 iB)
def MZ (N:Nat) (aN:ae) (bh:ZZD) (dw:Int) (aq:ae) (ig:Bool) (iB:Int→Option Bool):Option Bool:=
 bif ig then(
 MY N dw true aq aN iB)else(
(ix bh dw).bind fun anL=>
(ix aN.ab anL).bind fun anM=>
(ix aq.ab dw).bind fun anN=>
 MY N dw (!decide (anM.aJ=anN.aJ)) aq aN iB)
def M0 (N:Nat) (ie:Bool) (aN:ae) (bh:ZZD) (dw:Int) (aq:ae) (l7:Bool) (iB:Int→Option Bool):Option Bool:=
 bif l7 then(
 MZ N aN bh dw aq true iB)else(
 MZ N aN bh dw aq (!ie) iB)
def U3 (N:Nat) (v59:List (ZZD)) (dw:Int) (bh:ZZD) (cm:List (ZZD)) (v49:List Bool) (bS:ZZD) (cG:ZZD) (aN:ae) (aq:ae) (iB:Int→Option Bool):Option Bool:=
(ix v59 dw).bind fun anO=>
(ix bh dw).bind fun anP=>
(ix cm anP).bind fun anQ=>
(M1 N anO anQ).bind fun aea=>
(ix bh dw).bind fun anR=>
(ix v49 anR).bind fun aeb=>
 bif (!aeb)then(
 M0 N aea aN bh dw aq true iB)else(
(ix bS dw).bind fun anS=>
(ix bh dw).bind fun anT=>
(ix cG anT).bind fun anU=>
 M0 N aea aN bh dw aq (!decide (anS=anU)) iB)
def U4 (N:Nat) (v21:List Bool) (dw:Int) (v59:List (ZZD)) (bh:ZZD) (cm:List (ZZD)) (v49:List Bool) (bS:ZZD) (cG:ZZD) (aN:ae) (aq:ae) (iB:Int→Option Bool):Option Bool:=
(ix v21 dw).bind fun anV=>
 bif (!anV)then(
 IV N dw aq aN iB)else(
 U3 N v59 dw bh cm v49 bS cG aN aq iB)
def aec (N:Nat) (v2:Bool)  :Option Bool:=
 some v2
def FW (N:Nat) (aq:ae) (v21:List Bool) (v59:List (ZZD)) (bh:ZZD) (cm:List (ZZD)) (v49:List Bool) (bS:ZZD) (cG:ZZD) (aN:ae) (v2:Bool) (dw:Int) (iB:Int→Option Bool):Option Bool:=
 bif (decide (dw<(aq.ab.length:Int)))then(
 U4 N v21 dw v59 bh cm v49 bS cG aN aq iB)else(
 aec N v2)
def M3 (N:Nat) (aq:ae) (v21:List Bool) (v59:List (ZZD)) (bh:ZZD) (cm:List (ZZD)) (v49:List Bool) (bS:ZZD) (cG:ZZD) (aN:ae) (v2:Bool)  :Nat→Int→Option Bool | 0,_=>none | n+1,dw=>FW N aq v21 v59 bh cm v49 bS cG aN v2 dw  (fun ar=>M3 N aq v21 v59 bh cm v49 bS cG aN v2 n ar)
def M4 (N:Nat) (aq:ae) (v21:List Bool) (v59:List (ZZD)) (bh:ZZD) (cm:List (ZZD)) (v49:List Bool) (bS:ZZD) (cG:ZZD) (aN:ae) (v2:Bool)  :Option Bool:=
 M3 N aq v21 v59 bh cm v49 bS cG aN v2 N 0
def M5 (N:Nat) (aq:ae) (v21:List Bool) (v59:List (ZZD)) (bh:ZZD) (cm:List (ZZD)) (v49:List Bool) (bS:ZZD) (cG:ZZD) (aN:ae) (v2:Bool) (tg:Bool)  :Option Bool:=
 bif tg then(
 some false)else(
 M4 N aq v21 v59 bh cm v49 bS cG aN v2)
def M6 (N:Nat) (cm:List (ZZD)) (aN:ae) (aq:ae) (v21:List Bool) (v59:List (ZZD)) (bh:ZZD) (v49:List Bool) (bS:ZZD) (cG:ZZD) (v2:Bool) (v130:Bool)  :Option Bool:=
 bif v130 then(
 M5 N aq v21 v59 bh cm v49 bS cG aN v2 true)else(
 M5 N aq v21 v59 bh cm v49 bS cG aN v2 (!decide ((cm.length:Int)=(aN.ab.length:Int))))
def M7 (N:Nat) (v49:List Bool) (aN:ae) (cm:List (ZZD)) (aq:ae) (v21:List Bool) (v59:List (ZZD)) (bh:ZZD) (bS:ZZD) (cG:ZZD) (v2:Bool) (nB:Bool)  :Option Bool:=
 bif nB then(
 M6 N cm aN aq v21 v59 bh v49 bS cG v2 true)else(
 M6 N cm aN aq v21 v59 bh v49 bS cG v2 (!decide ((v49.length:Int)=(aN.ab.length:Int))))
def M8 (N:Nat) (dB:Int) (v49:List Bool) (aN:ae) (cm:List (ZZD)) (aq:ae) (v21:List Bool) (v59:List (ZZD)) (bh:ZZD) (bS:ZZD) (cG:ZZD) (v2:Bool) (qf:Bool)  :Option Bool:=
 bif qf then(
 M7 N v49 aN cm aq v21 v59 bh bS cG v2 true)else(
 M7 N v49 aN cm aq v21 v59 bh bS cG v2 (!decide (dB=0)))
def U5 (N:Nat) (v1:aO) (aN:ae) (aq:ae) (v21:List Bool) (bh:ZZD) (v2:Bool)  :Option Bool:=
(IW N v1 aN).bind fun tR=>
(FX N aN).bind fun tS=>
(FY N aq).bind fun zi=>
(FY N aN).bind fun M9=>
(IX N aq).bind fun aed=>
(IX N aN).bind fun aee=>
 bif (!decide (tR.1=0))then(
 M8 N M9.2 tS aN aee aq v21 aed bh zi.1 M9.1 v2 true)else(
 M8 N M9.2 tS aN aee aq v21 aed bh zi.1 M9.1 v2 (!decide (zi.2=0)))
def Na (N:Nat) (v1:aO) (aN:ae) (aq:ae) (v21:List Bool) (bh:ZZD) (v2:Bool) (v145:Bool)  :Option Bool:=
 bif v145 then(
 some false)else(
 U5 N v1 aN aq v21 bh v2)
def Nb (N:Nat) (aq:ae) (v21:List Bool) (v1:aO) (v2:Bool)  :Option Bool:=
(IY N aq v21).bind fun pR=>
 bif (!decide (pR.2.2=0))then(
 Na N v1 pR.1 aq v21 pR.2.1 v2 true)else(
 Na N v1 pR.1 aq v21 pR.2.1 v2 (!decide ((pR.2.1.length:Int)=(aq.ab.length:Int))))
def Nc (N:Nat) (aq:ae) (v21:List Bool) (v2:Bool) (v1:aO)  :Option Bool:=
(ix v21 (bN .i64 ((aq.ab.length:Int)-1))).bind fun FZ=>
 bif (!FZ)then(
 some v2)else(
 Nb N aq v21 v1 v2)
def Nd (N:Nat) (aq:ae) (v21:List Bool) (v2:Bool) (v1:aO) (yc:Bool)  :Option Bool:=
 bif yc then(
 some false)else(
 Nc N aq v21 v2 v1)
def Nf (N:Nat) (aq:ae) (ct:List Bool) (v21:List Bool) (v2:Bool) (v1:aO)  :Option Bool:=
(IY N aq ct).bind fun j8=>
(Ng N j8.1 aq).bind fun U6=>
 bif (!decide (j8.2.2=0))then(
 Nd N aq v21 v2 v1 true)else(
 Nd N aq v21 v2 v1 (!U6))
def F0 (N:Nat) (ct:List Bool) (aq:ae) (v21:List Bool) (v2:Bool) (v1:aO) (iT:Int) (tQ:Int→(List Bool)→Option Bool):Option Bool:=
 bif (decide (iT<(ct.length:Int)))then(
 U2 N ct iT aq v1 tQ)else(
 Nf N aq ct v21 v2 v1)
def F4 (N:Nat) (aq:ae) (v21:List Bool) (v2:Bool) (v1:aO)  :Nat→(List Bool)→Int→Option Bool | 0,_,_=>none | n+1,ct,iT=>F0 N ct aq v21 v2 v1 iT  (fun ar di=>F4 N aq v21 v2 v1 n di ar)
def Nh (N:Nat) (v1:aO) (x1:Int) (v2:Bool)  :Option Bool:=
 gu (!decide ((v1.bp.length:Int)=0)) (
(ix v1.bp (Int.tmod (bN .i64 x1) (v1.bp.length:Int))).bind fun gj=>
(FX N gj).bind fun sB=>
 gu (decide (0≤(gj.ab.length:Int))&&decide ((gj.ab.length:Int)≤65536)) (
 F4 N gj sB v2 v1 N (List.replicate (gj.ab.length:Int).toNat false) 0))
def Ni (N:Nat) (v1:aO) (v2:Bool) (x1:Int)  :Option Bool:=
(Nj N v1).bind fun IZ=>
 bif (!decide (IZ.1=0))then(
 some v2)else(
 Nh N v1 x1 v2)
def U7 (N:Nat) (x0:aO) (x1:Int):Option Bool:=
(ans).bind fun cv=>
(MS N x0).bind fun fq=>
 bif (!fq)then(
 some cv)else(
 Ni N x0 cv x1)
abbrev ll (c:Cx) (R:ZZF) (r:Bool):Prop:=∀(g' h':AH),Sep c g' h' []→R (.bool r) h'
theorem azT {w0:World} [fQ w0] {c g h E R r N iT U1 ji mY anW anX I3 CZ C0 I4 C1 C2 C3 tn tQ C4}(M:U0 N iT U1 ji mY tQ=some r)(S:Sep c g h [.sl 4 1 anW anX,.bx I3 (ZZA ji CZ C0),.bx I4 (ZZB mY C1 C2 C3)])(azU:aw (rB g) anX U1)(anY:aa ah.rep 4 g CZ ji.ab)(anZ:aa al.rep 3 g C0 ji.aI)(an0:aa aZ.rep 4 g C1 mY.bE)(an1:aa bD.rep 4 g C2 mY.bw)(an2:aa ae.rep 7 g C3 mY.bp)(Nk:Sub C4 g)(Nl:∀{ar:Int}{di:List Bool}{fK:List (ZZE)}{g2 h2:AH},tQ ar di=some r→Sub C4 g2→Sep c g2 h2 [.sl 4 1 anW fK,.bx I3 (ZZA ji CZ C0),.bx I4 (ZZB mY C1 C2 C3)]→aw (rB g2) fK di→tn (vi ar) h2)(H:ll c R r):aa7 w0 E R (vi iT) tn h:=by
 unfold aa7;unfold U0 at M;refine gE.2 ?_;exact Nl M Nk S azU
theorem azV {w0:World} [fQ w0] {c g h E R r N ct iT ji mY tT sC I3 CZ C0 I4 C1 C2 C3 tn tQ C4}(M:U2 N ct iT ji mY tQ=some r)(S:Sep c g h [.sl 4 1 tT sC,.bx I3 (ZZA ji CZ C0),.bx I4 (ZZB mY C1 C2 C3)])(xp:aw (rB g) sC ct)(anY:aa ah.rep 4 g CZ ji.ab)(anZ:aa al.rep 3 g C0 ji.aI)(an0:aa aZ.rep 4 g C1 mY.bE)(an1:aa bD.rep 4 g C2 mY.bw)(an2:aa ae.rep 7 g C3 mY.bp)(Nk:Sub C4 g)(Nl:∀{ar:Int}{di:List Bool}{fK:List (ZZE)}{g2 h2:AH},tQ ar di=some r→Sub C4 g2→Sep c g2 h2 [.sl 4 1 tT fK,.bx I3 (ZZA ji CZ C0),.bx I4 (ZZB mY C1 C2 C3)]→aw (rB g2) fK di→tn (vi ar) h2)(H:ll c R r):aa8 w0 E R tT (vi iT) tn h:=by
 unfold aa8;unfold U2 at M;obtain⟨FV,Nn,M⟩:=bind_some M;refine S.mF 0 rfl xp Nn (fun azW azX vs azY azZ rp=>?_);cases rp;refine S.Bb (j:=0) [.bool true] azY azZ rfl rfl (ag rfl rfl) (by decide) (fun h S=>?_);have az0:aw (rB g) (sC.set iT.toNat [.bool true]) (ct.set iT.toNat true):=aw.set xp (show rB g [.bool true] true from rfl) iT.toNat;have S:Sep _ g h [.sl 4 1 tT (sC.set iT.toNat [.bool true]),.bx I3 (ZZA ji CZ C0),.bx I4 (ZZB mY C1 C2 C3)]:=S;exact azT M S az0 anY anZ an0 an1 an2 Nk Nl H
theorem an3 {w0:World} [fQ w0] {c g h E R r N dw j6 j7 Np F5 F6 Nq F7 F8 jc iB ot}(M:IV N dw j6 j7 iB=some r)(S:Sep c g h [.bx Np (ZZA j6 F5 F6),.bx Nq (ZZA j7 F7 F8)])(an4:aa ah.rep 4 g F5 j6.ab)(an5:aa al.rep 3 g F6 j6.aI)(an6:aa ah.rep 4 g F7 j7.ab)(an7:aa al.rep 3 g F8 j7.aI)(qz:Sub ot g)(qA:∀{ar:Int}{g2 h2:AH},iB ar=some r→Sub ot g2→Sep c g2 h2 [.bx Np (ZZA j6 F5 F6),.bx Nq (ZZA j7 F7 F8)]→jc (vi ar) h2)(H:ll c R r):Sx w0 E R (vi dw) jc h:=by
 unfold Sx;unfold IV at M;refine gE.2 ?_;exact qA M qz S
theorem an8 {w0:World} [fQ w0] {c g h E R r N dw v109 j6 j7 Np F5 F6 Nq F7 F8 jc iB ot}(M:MY N dw v109 j6 j7 iB=some r)(S:Sep c g h [.bx Np (ZZA j6 F5 F6),.bx Nq (ZZA j7 F7 F8)])(an4:aa ah.rep 4 g F5 j6.ab)(an5:aa al.rep 3 g F6 j6.aI)(an6:aa ah.rep 4 g F7 j7.ab)(an7:aa al.rep 3 g F8 j7.aI)(qz:Sub ot g)(qA:∀{ar:Int}{g2 h2:AH},iB ar=some r→Sub ot g2→Sep c g2 h2 [.bx Np (ZZA j6 F5 F6),.bx Nq (ZZA j7 F7 F8)]→jc (vi ar) h2)(H:ll c R r):aaR w0 E R (vi dw) jc (.bool v109) h:=by
 unfold aaR;unfold MY at M;refine bR (fun hc=>?_) (fun hc=>?_)
 · have M:=aV hc M;cases M;exact H _ _  S.bO
 · have M:=aX hc M;exact an3 M S an4 an5 an6 an7 qz qA H
theorem an9 {w0:World} [fQ w0] {c g h E R r N aN bh dw aq ig gw fL fM iC cH dV dW jc iB ot}(M:MZ N aN bh dw aq ig iB=some r)(S:Sep c g h [.bx gw (ZZA aN fL fM),.bx cH (ZZA aq dV dW)])(fg:aa ah.rep 4 g fL aN.ab)(fy:aa al.rep 3 g fM aN.aI)(fV:aa (rI .i64) 1 g iC bh)(dA:aa ah.rep 4 g dV aq.ab)(dJ:aa al.rep 3 g dW aq.aI)(qz:Sub ot g)(qA:∀{ar:Int}{g2 h2:AH},iB ar=some r→Sub ot g2→Sep c g2 h2 [.bx cH (ZZA aq dV dW),.bx gw (ZZA aN fL fM)]→jc (vi ar) h2)(H:ll c R r):aaS w0 E R (ak gw 0) iC (vi dw) (ak cH 0) jc (.bool ig) h:=by
 unfold aaS;unfold MZ at M;cases hc:ig
 · have M:=aX hc M;refine au rfl (aQ.2 (au rfl (S.aP 0 rfl rfl (au rfl (au rfl (au rfl ?_))))));obtain⟨anL,az1,M⟩:=bind_some M;refine aa.idx fV az1 (fun aJn aJo vs aJp az2 rp=>?_);cases rp;refine au rfl (S.dK (az2 0 _ rfl) (au rfl ?_));obtain⟨anM,az3,M⟩:=bind_some M;refine aa.idx fg az3 (fun aJq aJr vs aJs az4 rp=>?_);cases rp;refine au rfl (aQ.2 (au rfl (S.dK (az4 0 _ rfl) (au rfl (aQ.2 (au rfl (S.aP 1 rfl rfl (au rfl (au rfl ?_)))))))));obtain⟨anN,az5,M⟩:=bind_some M;refine aa.idx dA az5 (fun aJt aJu vs aJv az6 rp=>?_);cases rp;refine au rfl (aQ.2 (au rfl (S.dK (az6 0 _ rfl) (au rfl (gb.2 (aW.2 ?_))))));have S:=S.f1;exact an8 M S dA dJ fg fy qz qA H
 · have M:=aV hc M;repeat refine ax (by decide) ?_;refine aW.2 ?_;have S:=S.f1;exact an8 M S dA dJ fg fy qz qA H
theorem aoa {w0:World} [fQ w0] {c g h E R r N ie aN bh dw aq l7 gw fL fM iC cH dV dW jc iB ot}(M:M0 N ie aN bh dw aq l7 iB=some r)(S:Sep c g h [.bx gw (ZZA aN fL fM),.bx cH (ZZA aq dV dW)])(fg:aa ah.rep 4 g fL aN.ab)(fy:aa al.rep 3 g fM aN.aI)(fV:aa (rI .i64) 1 g iC bh)(dA:aa ah.rep 4 g dV aq.ab)(dJ:aa al.rep 3 g dW aq.aI)(qz:Sub ot g)(qA:∀{ar:Int}{g2 h2:AH},iB ar=some r→Sub ot g2→Sep c g2 h2 [.bx cH (ZZA aq dV dW),.bx gw (ZZA aN fL fM)]→jc (vi ar) h2)(H:ll c R r):aaT w0 E R (.bool ie) (ak gw 0) iC (vi dw) (ak cH 0) jc (.bool l7) h:=by
 unfold aaT;unfold M0 at M;cases hc:l7
 · have M:=aX hc M;refine au rfl (au rfl (dZ.2 (aW.2 ?_)));exact an9 M S fg fy fV dA dJ qz qA H
 · have M:=aV hc M;repeat refine ax (by decide) ?_;refine aW.2 ?_;exact an9 M S fg fy fV dA dJ qz qA H
theorem az7 {w0:World} [fQ w0] {c g h E R r N v59 dw bh cm v49 bS cG aN aq lC iC lD lE jj lF gw fL fM cH dV dW jc iB ot}(M:U3 N v59 dw bh cm v49 bS cG aN aq iB=some r)(S:Sep c g h [.bx gw (ZZA aN fL fM),.bx cH (ZZA aq dV dW)])(mZ:aa (rL (rI .i64) 1) 1 g lC v59)(fV:aa (rI .i64) 1 g iC bh)(mG:aa (rL (rI .i64) 1) 1 g lD cm)(mH:aa rB 1 g lE v49)(j9:aa (rI .i64) 1 g jj bS)(na:aa (rI .i64) 1 g lF cG)(fg:aa ah.rep 4 g fL aN.ab)(fy:aa al.rep 3 g fM aN.aI)(dA:aa ah.rep 4 g dV aq.ab)(dJ:aa al.rep 3 g dW aq.aI)(qz:Sub ot g)(qA:∀{ar:Int}{g2 h2:AH},iB ar=some r→Sub ot g2→Sep c g2 h2 [.bx cH (ZZA aq dV dW),.bx gw (ZZA aN fL fM)]→jc (vi ar) h2)(H:ll c R r):aaU w0 E R lC (vi dw) iC lD lE jj lF (ak gw 0) (ak cH 0) jc h:=by
 unfold aaU;unfold U3 at M;obtain⟨anO,az8,M⟩:=bind_some M;refine aa.idx mZ az8 (fun aJw aJx vs aJy az9 rp=>?_);obtain⟨aJz,rfl,Nr⟩:=rp;refine S.dK (az9 0 _ rfl) ?_;obtain⟨anP,aAa,M⟩:=bind_some M;refine aa.idx fV aAa (fun aJA aJB vs aJC aAb rp=>?_);cases rp;refine S.dK (aAb 0 _ rfl) ?_;obtain⟨anQ,aAc,M⟩:=bind_some M;refine aa.idx mG aAc (fun aJD aJE vs aJF aAd rp=>?_);obtain⟨aJG,rfl,aAe⟩:=rp;refine S.dK (aAd 0 _ rfl) ?_;obtain⟨aea,aAf,M⟩:=bind_some M;refine aAg aAf S.sub S.ok Nr aAe (fun _ h  S1  =>?_);have S:=S.dz S1;obtain⟨anR,aAh,M⟩:=bind_some M;refine aa.idx fV aAh (fun aJH aJI vs aJJ aAi rp=>?_);cases rp;refine S.dK (aAi 0 _ rfl) ?_;obtain⟨aeb,aAj,M⟩:=bind_some M;refine aa.idx mH aAj (fun aJK aJL vs aJM aAk rp=>?_);cases rp;refine S.dK (aAk 0 _ rfl) (dZ.2 ?_);cases hc:(!aeb)
 · have M:=aX hc M;refine au rfl (au rfl (au rfl ?_));obtain⟨anS,aAl,M⟩:=bind_some M;refine aa.idx j9 aAl (fun aJN aJO vs aJP aAm rp=>?_);cases rp;refine au rfl (S.dK (aAm 0 _ rfl) (au rfl (au rfl (au rfl (au rfl ?_)))));obtain⟨anT,aAn,M⟩:=bind_some M;refine aa.idx fV aAn (fun aJQ aJR vs aJS aAo rp=>?_);cases rp;refine au rfl (S.dK (aAo 0 _ rfl) (au rfl ?_));obtain⟨anU,aAp,M⟩:=bind_some M;refine aa.idx na aAp (fun aJT aJU vs aJV aAq rp=>?_);cases rp;refine au rfl (S.dK (aAq 0 _ rfl) (au rfl (gb.2 (aW.2 ?_))));exact aoa M S fg fy fV dA dJ qz qA H
 · have M:=aV hc M;repeat refine ax (by decide) ?_;refine aW.2 ?_;exact aoa M S fg fy fV dA dJ qz qA H
theorem aAr {w0:World} [fQ w0] {c g h E R r N v21 dw v59 bh cm v49 bS cG aN aq fO lC iC lD lE jj lF gw fL fM cH dV dW jc iB ot}(M:U4 N v21 dw v59 bh cm v49 bS cG aN aq iB=some r)(S:Sep c g h [.bx gw (ZZA aN fL fM),.bx cH (ZZA aq dV dW)])(eE:aa rB 1 g fO v21)(mZ:aa (rL (rI .i64) 1) 1 g lC v59)(fV:aa (rI .i64) 1 g iC bh)(mG:aa (rL (rI .i64) 1) 1 g lD cm)(mH:aa rB 1 g lE v49)(j9:aa (rI .i64) 1 g jj bS)(na:aa (rI .i64) 1 g lF cG)(fg:aa ah.rep 4 g fL aN.ab)(fy:aa al.rep 3 g fM aN.aI)(dA:aa ah.rep 4 g dV aq.ab)(dJ:aa al.rep 3 g dW aq.aI)(qz:Sub ot g)(qA:∀{ar:Int}{g2 h2:AH},iB ar=some r→Sub ot g2→Sep c g2 h2 [.bx cH (ZZA aq dV dW),.bx gw (ZZA aN fL fM)]→jc (vi ar) h2)(H:ll c R r):aaV w0 E R fO (vi dw) jc lC iC lD lE jj lF (ak gw 0) (ak cH 0) h:=by
 unfold aaV;unfold U4 at M;obtain⟨anV,aAs,M⟩:=bind_some M;refine aa.idx eE aAs (fun aJW aJX vs aJY aAt rp=>?_);cases rp;refine S.dK (aAt 0 _ rfl) (dZ.2 (bR (fun hc=>?_) (fun hc=>?_)))
 · have M:=aV hc M;have S:=S.f1;exact an3 M S dA dJ fg fy qz qA H
 · have M:=aX hc M;exact az7 M S mZ fV mG mH j9 na fg fy dA dJ qz qA H
theorem aAu {w0:World} [fQ w0] {c g h E R r N v2}  (M:aec N v2=some r)(S:Sep c g h [])   (H:ll c R r):aaQ w0 E R (.bool v2) h:=by
 unfold aaQ;unfold aec at M;cases M;exact H _ _  S.bO
theorem aAv {w0:World} [fQ w0] {c g h E R r N aq v21 v59 bh cm v49 bS cG aN v2 dw cH dV dW fO lC iC lD lE jj lF gw fL fM jc iB ot}(M:FW N aq v21 v59 bh cm v49 bS cG aN v2 dw iB=some r)(S:Sep c g h [.bx cH (ZZA aq dV dW),.bx gw (ZZA aN fL fM)])(dA:aa ah.rep 4 g dV aq.ab)(dJ:aa al.rep 3 g dW aq.aI)(eE:aa rB 1 g fO v21)(mZ:aa (rL (rI .i64) 1) 1 g lC v59)(fV:aa (rI .i64) 1 g iC bh)(mG:aa (rL (rI .i64) 1) 1 g lD cm)(mH:aa rB 1 g lE v49)(j9:aa (rI .i64) 1 g jj bS)(na:aa (rI .i64) 1 g lF cG)(fg:aa ah.rep 4 g fL aN.ab)(fy:aa al.rep 3 g fM aN.aI)(qz:Sub ot g)(qA:∀{ar:Int}{g2 h2:AH},iB ar=some r→Sub ot g2→Sep c g2 h2 [.bx cH (ZZA aq dV dW),.bx gw (ZZA aN fL fM)]→jc (vi ar) h2)(H:ll c R r):Sy w0 E R (ak cH 0) fO lC iC lD lE jj lF (ak gw 0) (.bool v2) jc (vi dw) h:=by
 unfold Sy;unfold FW at M;refine aQ.2 (S.aP 0 rfl rfl (dA.len (fj.2 (bR (fun hc=>?_) (fun hc=>?_)))))
 · have M:=aV hc M;have S:=S.f1;exact aAr M S eE mZ fV mG mH j9 na fg fy dA dJ qz qA H
 · have M:=aX hc M;have S:=S.t0;exact aAu M S  H
theorem aAw {w0:World} [fQ w0] {c E R r N aq v21 v59 bh cm v49 bS cG aN v2 cH dV dW fO lC iC lD lE jj lF gw fL fM}   (H:ll c R r):∀(n:Nat){dw:Int}{g h:AH},M3 N aq v21 v59 bh cm v49 bS cG aN v2 n dw=some r→Sep c g h [.bx cH (ZZA aq dV dW),.bx gw (ZZA aN fL fM)]→aa ah.rep 4 g dV aq.ab→aa al.rep 3 g dW aq.aI→aa rB 1 g fO v21→aa (rL (rI .i64) 1) 1 g lC v59→aa (rI .i64) 1 g iC bh→aa (rL (rI .i64) 1) 1 g lD cm→aa rB 1 g lE v49→aa (rI .i64) 1 g jj bS→aa (rI .i64) 1 g lF cG→aa ah.rep 4 g fL aN.ab→aa al.rep 3 g fM aN.aI→gg (α:=Z) (fun k a=>Sy w0 E R (ak cH 0) fO lC iC lD lE jj lF (ak gw 0) (.bool v2) k a) n (vi dw) h:=by
 intro n
 induction n with
 | zero=>
  intro dw  g h M S dA dJ eE mZ fV mG mH j9 na fg fy ;unfold M3 at M;cases M
 | succ n ih=>
  intro dw  g h M S dA dJ eE mZ fV mG mH j9 na fg fy ;exact aAv M S dA dJ eE mZ fV mG mH j9 na fg fy  (Sub.refl g) (fun M2 sub S2  =>ih M2 S2 (aa.mono dA ah.mono sub) (aa.mono dJ al.mono sub) (aa.mono eE lS sub) (aa.mono mZ (Ns (eD .i64)) sub) (aa.mono fV (eD .i64) sub) (aa.mono mG (Ns (eD .i64)) sub) (aa.mono mH lS sub) (aa.mono j9 (eD .i64) sub) (aa.mono na (eD .i64) sub) (aa.mono fg ah.mono sub) (aa.mono fy al.mono sub)) H
theorem aAx {w0:World} [fQ w0] {c g h E R r N aq v21 v59 bh cm v49 bS cG aN v2 cH dV dW fO lC iC lD lE jj lF gw fL fM}  (M:M4 N aq v21 v59 bh cm v49 bS cG aN v2=some r)(S:Sep c g h [.bx cH (ZZA aq dV dW),.bx gw (ZZA aN fL fM)])(dA:aa ah.rep 4 g dV aq.ab)(dJ:aa al.rep 3 g dW aq.aI)(eE:aa rB 1 g fO v21)(mZ:aa (rL (rI .i64) 1) 1 g lC v59)(fV:aa (rI .i64) 1 g iC bh)(mG:aa (rL (rI .i64) 1) 1 g lD cm)(mH:aa rB 1 g lE v49)(j9:aa (rI .i64) 1 g jj bS)(na:aa (rI .i64) 1 g lF cG)(fg:aa ah.rep 4 g fL aN.ab)(fy:aa al.rep 3 g fM aN.aI)  (H:ll c R r):aaW w0 E R (ak cH 0) fO lC iC lD lE jj lF (ak gw 0) (.bool v2) h:=by
 unfold aaW;unfold M4 at M;exact⟨N,aAw  H _ M S dA dJ eE mZ fV mG mH j9 na fg fy⟩
theorem aob {w0:World} [fQ w0] {c g h E R r N aq v21 v59 bh cm v49 bS cG aN v2 tg cH dV dW fO lC iC lD lE jj lF gw fL fM}  (M:M5 N aq v21 v59 bh cm v49 bS cG aN v2 tg=some r)(S:Sep c g h [.bx cH (ZZA aq dV dW),.bx gw (ZZA aN fL fM)])(dA:aa ah.rep 4 g dV aq.ab)(dJ:aa al.rep 3 g dW aq.aI)(eE:aa rB 1 g fO v21)(mZ:aa (rL (rI .i64) 1) 1 g lC v59)(fV:aa (rI .i64) 1 g iC bh)(mG:aa (rL (rI .i64) 1) 1 g lD cm)(mH:aa rB 1 g lE v49)(j9:aa (rI .i64) 1 g jj bS)(na:aa (rI .i64) 1 g lF cG)(fg:aa ah.rep 4 g fL aN.ab)(fy:aa al.rep 3 g fM aN.aI)  (H:ll c R r):aaX w0 E R (ak cH 0) fO lC iC lD lE jj lF (ak gw 0) (.bool v2) (.bool tg) h:=by
 unfold aaX;unfold M5 at M;refine bR (fun hc=>?_) (fun hc=>?_)
 · have M:=aV hc M;cases M;exact H _ _  S.bO
 · have M:=aX hc M;exact aAx M S dA dJ eE mZ fV mG mH j9 na fg fy H
theorem aoc {w0:World} [fQ w0] {c g h E R r N cm aN aq v21 v59 bh v49 bS cG v2 v130 lD gw fL fM cH dV dW fO lC iC lE jj lF}  (M:M6 N cm aN aq v21 v59 bh v49 bS cG v2 v130=some r)(S:Sep c g h [.bx gw (ZZA aN fL fM),.bx cH (ZZA aq dV dW)])(mG:aa (rL (rI .i64) 1) 1 g lD cm)(fg:aa ah.rep 4 g fL aN.ab)(fy:aa al.rep 3 g fM aN.aI)(dA:aa ah.rep 4 g dV aq.ab)(dJ:aa al.rep 3 g dW aq.aI)(eE:aa rB 1 g fO v21)(mZ:aa (rL (rI .i64) 1) 1 g lC v59)(fV:aa (rI .i64) 1 g iC bh)(mH:aa rB 1 g lE v49)(j9:aa (rI .i64) 1 g jj bS)(na:aa (rI .i64) 1 g lF cG)  (H:ll c R r):aaY w0 E R lD (ak gw 0) (ak cH 0) fO lC iC lE jj lF (.bool v2) (.bool v130) h:=by
 unfold aaY;unfold M6 at M;cases hc:v130
 · have M:=aX hc M;refine au rfl (au rfl (mG.len (au rfl (aQ.2 (au rfl (S.aP 0 rfl rfl (au rfl (fg.len (au rfl (gb.2 (aW.2 ?_)))))))))));have S:=S.f1;exact aob M S dA dJ eE mZ fV mG mH j9 na fg fy H
 · have M:=aV hc M;repeat refine ax (by decide) ?_;refine aW.2 ?_;have S:=S.f1;exact aob M S dA dJ eE mZ fV mG mH j9 na fg fy H
theorem aod {w0:World} [fQ w0] {c g h E R r N v49 aN cm aq v21 v59 bh bS cG v2 nB lE gw fL fM lD cH dV dW fO lC iC jj lF}  (M:M7 N v49 aN cm aq v21 v59 bh bS cG v2 nB=some r)(S:Sep c g h [.bx gw (ZZA aN fL fM),.bx cH (ZZA aq dV dW)])(mH:aa rB 1 g lE v49)(fg:aa ah.rep 4 g fL aN.ab)(fy:aa al.rep 3 g fM aN.aI)(mG:aa (rL (rI .i64) 1) 1 g lD cm)(dA:aa ah.rep 4 g dV aq.ab)(dJ:aa al.rep 3 g dW aq.aI)(eE:aa rB 1 g fO v21)(mZ:aa (rL (rI .i64) 1) 1 g lC v59)(fV:aa (rI .i64) 1 g iC bh)(j9:aa (rI .i64) 1 g jj bS)(na:aa (rI .i64) 1 g lF cG)  (H:ll c R r):aaZ w0 E R lE (ak gw 0) lD (ak cH 0) fO lC iC jj lF (.bool v2) (.bool nB) h:=by
 unfold aaZ;unfold M7 at M;cases hc:nB
 · have M:=aX hc M;refine au rfl (au rfl (mH.len (au rfl (aQ.2 (au rfl (S.aP 0 rfl rfl (au rfl (fg.len (au rfl (gb.2 (aW.2 ?_)))))))))));exact aoc M S mG fg fy dA dJ eE mZ fV mH j9 na H
 · have M:=aV hc M;repeat refine ax (by decide) ?_;refine aW.2 ?_;exact aoc M S mG fg fy dA dJ eE mZ fV mH j9 na H
theorem aoe {w0:World} [fQ w0] {c g h E R r N dB v49 aN cm aq v21 v59 bh bS cG v2 qf lE gw fL fM lD cH dV dW fO lC iC jj lF}  (M:M8 N dB v49 aN cm aq v21 v59 bh bS cG v2 qf=some r)(S:Sep c g h [.bx gw (ZZA aN fL fM),.bx cH (ZZA aq dV dW)])(mH:aa rB 1 g lE v49)(fg:aa ah.rep 4 g fL aN.ab)(fy:aa al.rep 3 g fM aN.aI)(mG:aa (rL (rI .i64) 1) 1 g lD cm)(dA:aa ah.rep 4 g dV aq.ab)(dJ:aa al.rep 3 g dW aq.aI)(eE:aa rB 1 g fO v21)(mZ:aa (rL (rI .i64) 1) 1 g lC v59)(fV:aa (rI .i64) 1 g iC bh)(j9:aa (rI .i64) 1 g jj bS)(na:aa (rI .i64) 1 g lF cG)  (H:ll c R r):aa0 w0 E R (vi dB) lE (ak gw 0) lD (ak cH 0) fO lC iC jj lF (.bool v2) (.bool qf) h:=by
 unfold aa0;unfold M8 at M;cases hc:qf
 · have M:=aX hc M;refine au rfl (au rfl (gb.2 (aW.2 ?_)));exact aod M S mH fg fy mG dA dJ eE mZ fV j9 na H
 · have M:=aV hc M;repeat refine ax (by decide) ?_;refine aW.2 ?_;exact aod M S mH fg fy mG dA dJ eE mZ fV j9 na H
theorem aAy {w0:World} [fQ w0] {c g h E R r N v1 aN aq v21 bh v2 av aA az aR gw fL fM cH dV dW fO iC}  (M:U5 N v1 aN aq v21 bh v2=some r)(S:Sep c g h [.bx av (ZZB v1 aA az aR),.bx gw (ZZA aN fL fM),.bx cH (ZZA aq dV dW)])(aH:aa aZ.rep 4 g aA v1.bE)(aG:aa bD.rep 4 g az v1.bw)(aS:aa ae.rep 7 g aR v1.bp)(fg:aa ah.rep 4 g fL aN.ab)(fy:aa al.rep 3 g fM aN.aI)(dA:aa ah.rep 4 g dV aq.ab)(dJ:aa al.rep 3 g dW aq.aI)(eE:aa rB 1 g fO v21)(fV:aa (rI .i64) 1 g iC bh)  (H:ll c R r):aa1 w0 E R (ak av 0) (ak gw 0) (ak cH 0) fO iC (.bool v2) h:=by
 unfold aa1;unfold U5 at M;refine S.eA (ZZB v1 aA az aR) 0 rfl rfl rfl (by decide) (S.eA (ZZA aN fL fM) 1 rfl rfl rfl (by decide) ?_);obtain⟨tR,aef,M⟩:=bind_some M;refine aof aef S.sub S.ok aH aG aS fg fy (fun _ h  S1  =>?_);have S:=S.dz S1;refine(fk rfl).2 ?_;refine(fk rfl).2 ?_;refine S.eA (ZZA aN fL fM) 1 rfl rfl rfl (by decide) ?_;obtain⟨tS,aeg,M⟩:=bind_some M;refine aog aeg S.sub S.ok fg fy (fun g h aJZ S1 wi=>?_);have eE:=aa.mono eE lS S1.bF;have fV:=aa.mono fV (eD .i64) S1.bF;have aH:=aa.mono aH aZ.mono S1.bF;have aG:=aa.mono aG bD.mono S1.bF;have aS:=aa.mono aS ae.mono S1.bF;have fg:=aa.mono fg ah.mono S1.bF;have fy:=aa.mono fy al.mono S1.bF;have dA:=aa.mono dA ah.mono S1.bF;have dJ:=aa.mono dJ al.mono S1.bF;have S:=S.ou S1;refine S.eA (ZZA aq dV dW) 2 rfl rfl rfl (by decide) ?_;obtain⟨zi,aeh,M⟩:=bind_some M;refine aoh aeh S.sub S.ok dA dJ (fun g h aJ0 S1 C5=>?_);have eE:=aa.mono eE lS S1.bF;have fV:=aa.mono fV (eD .i64) S1.bF;have aH:=aa.mono aH aZ.mono S1.bF;have aG:=aa.mono aG bD.mono S1.bF;have aS:=aa.mono aS ae.mono S1.bF;have fg:=aa.mono fg ah.mono S1.bF;have fy:=aa.mono fy al.mono S1.bF;have wi:=aa.mono wi lS S1.bF;have dA:=aa.mono dA ah.mono S1.bF;have dJ:=aa.mono dJ al.mono S1.bF;have S:=S.ou S1;refine(fk rfl).2 ?_;refine(fk rfl).2 ?_;refine S.eA (ZZA aN fL fM) 1 rfl rfl rfl (by decide) ?_;obtain⟨M9,aAz,M⟩:=bind_some M;refine aoh aAz S.sub S.ok fg fy (fun g h aJ1 S1 I5=>?_);have eE:=aa.mono eE lS S1.bF;have fV:=aa.mono fV (eD .i64) S1.bF;have aH:=aa.mono aH aZ.mono S1.bF;have aG:=aa.mono aG bD.mono S1.bF;have aS:=aa.mono aS ae.mono S1.bF;have fg:=aa.mono fg ah.mono S1.bF;have fy:=aa.mono fy al.mono S1.bF;have wi:=aa.mono wi lS S1.bF;have dA:=aa.mono dA ah.mono S1.bF;have dJ:=aa.mono dJ al.mono S1.bF;have C5:=aa.mono C5 (eD .i64) S1.bF;have S:=S.ou S1;refine(fk rfl).2 ?_;refine(fk rfl).2 ?_;refine S.eA (ZZA aq dV dW) 2 rfl rfl rfl (by decide) ?_;obtain⟨aed,aAA,M⟩:=bind_some M;refine aoi aAA S.sub S.ok dA dJ (fun g h aJ2 S1 U8=>?_);have eE:=aa.mono eE lS S1.bF;have fV:=aa.mono fV (eD .i64) S1.bF;have aH:=aa.mono aH aZ.mono S1.bF;have aG:=aa.mono aG bD.mono S1.bF;have aS:=aa.mono aS ae.mono S1.bF;have fg:=aa.mono fg ah.mono S1.bF;have fy:=aa.mono fy al.mono S1.bF;have wi:=aa.mono wi lS S1.bF;have dA:=aa.mono dA ah.mono S1.bF;have dJ:=aa.mono dJ al.mono S1.bF;have C5:=aa.mono C5 (eD .i64) S1.bF;have I5:=aa.mono I5 (eD .i64) S1.bF;have S:=S.ou S1;refine S.eA (ZZA aN fL fM) 1 rfl rfl rfl (by decide) ?_;obtain⟨aee,aei,M⟩:=bind_some M;refine aoi aei S.sub S.ok fg fy (fun g h aJ3 S1 aoj=>?_);have eE:=aa.mono eE lS S1.bF;have fV:=aa.mono fV (eD .i64) S1.bF;have aH:=aa.mono aH aZ.mono S1.bF;have aG:=aa.mono aG bD.mono S1.bF;have aS:=aa.mono aS ae.mono S1.bF;have fg:=aa.mono fg ah.mono S1.bF;have fy:=aa.mono fy al.mono S1.bF;have wi:=aa.mono wi lS S1.bF;have dA:=aa.mono dA ah.mono S1.bF;have dJ:=aa.mono dJ al.mono S1.bF;have C5:=aa.mono C5 (eD .i64) S1.bF;have I5:=aa.mono I5 (eD .i64) S1.bF;have U8:=aa.mono U8 (Ns (eD .i64)) S1.bF;have S:=S.ou S1;refine gb.2 ?_;cases hc:(!decide (tR.1=0))
 · have M:=aX hc M;refine au rfl (au rfl (gb.2 (aW.2 ?_)));have S:=S.f2.f2.t2;exact aoe M S wi fg fy aoj dA dJ eE U8 fV C5 I5 H
 · have M:=aV hc M;repeat refine ax (by decide) ?_;refine aW.2 ?_;have S:=S.f2.f2.t2;exact aoe M S wi fg fy aoj dA dJ eE U8 fV C5 I5 H
theorem aok {w0:World} [fQ w0] {c g h E R r N v1 aN aq v21 bh v2 v145 av aA az aR gw fL fM cH dV dW fO iC}  (M:Na N v1 aN aq v21 bh v2 v145=some r)(S:Sep c g h [.bx av (ZZB v1 aA az aR),.bx gw (ZZA aN fL fM),.bx cH (ZZA aq dV dW)])(aH:aa aZ.rep 4 g aA v1.bE)(aG:aa bD.rep 4 g az v1.bw)(aS:aa ae.rep 7 g aR v1.bp)(fg:aa ah.rep 4 g fL aN.ab)(fy:aa al.rep 3 g fM aN.aI)(dA:aa ah.rep 4 g dV aq.ab)(dJ:aa al.rep 3 g dW aq.aI)(eE:aa rB 1 g fO v21)(fV:aa (rI .i64) 1 g iC bh)  (H:ll c R r):aa2 w0 E R (ak av 0) (ak gw 0) (ak cH 0) fO iC (.bool v2) (.bool v145) h:=by
 unfold aa2;unfold Na at M;refine bR (fun hc=>?_) (fun hc=>?_)
 · have M:=aV hc M;cases M;exact H _ _  S.bO
 · have M:=aX hc M;exact aAy M S aH aG aS fg fy dA dJ eE fV H
theorem aAB {w0:World} [fQ w0] {c g h E R r N aq v21 v1 v2 cH dV dW fO av aA az aR}  (M:Nb N aq v21 v1 v2=some r)(S:Sep c g h [.bx cH (ZZA aq dV dW),.bx av (ZZB v1 aA az aR)])(dA:aa ah.rep 4 g dV aq.ab)(dJ:aa al.rep 3 g dW aq.aI)(eE:aa rB 1 g fO v21)(aH:aa aZ.rep 4 g aA v1.bE)(aG:aa bD.rep 4 g az v1.bw)(aS:aa ae.rep 7 g aR v1.bp)  (H:ll c R r):aa3 w0 E R (ak cH 0) fO (ak av 0) (.bool v2) h:=by
 unfold aa3;unfold Nb at M;refine S.eA (ZZA aq dV dW) 0 rfl rfl rfl (by decide) ?_;obtain⟨pR,aAC,M⟩:=bind_some M;refine aol aAC S.sub S.ok dA dJ eE (fun g h aom aon aJ4 S1 aej aek ael=>?_);have eE:=aa.mono eE lS S1.bF;have dA:=aa.mono dA ah.mono S1.bF;have dJ:=aa.mono dJ al.mono S1.bF;have aH:=aa.mono aH aZ.mono S1.bF;have aG:=aa.mono aG bD.mono S1.bF;have aS:=aa.mono aS ae.mono S1.bF;have S:=S.ou S1;refine(fk rfl).2 ?_;refine(fk rfl).2 ?_;refine(fk rfl).2 ?_;refine S.alloc (l:=[(.string (⟨⟨[]⟩⟩:ByteArray)),(.string (⟨⟨[]⟩⟩:ByteArray)),vi 0,vi 0,vi 0,bJ,bJ]) (ag rfl (ag rfl (ag rfl (ag rfl (ag rfl (ag rfl (ag rfl rfl))))))) (fun aJ5 h S=>?_);refine S.cV [.string pR.1.aC,.string pR.1.ay,vi pR.1.fArgs,vi pR.1.aE,vi pR.1.aD,aom,aon] [.string pR.1.aC,.string pR.1.ay,vi pR.1.fArgs,vi pR.1.aE,vi pR.1.aD,aom,aon] rfl rfl (ag rfl (ag rfl (ag rfl (ag rfl (ag rfl (ag aej.one (ag aek.one rfl))))))) (zaa rfl) rfl (fun h S=>?_);refine gb.2 ?_;cases hc:(!decide (pR.2.2=0))
 · have M:=aX hc M;refine au rfl (au rfl (ael.len (au rfl (aQ.2 (au rfl (S.aP 1 rfl rfl (au rfl (dA.len (au rfl (gb.2 (aW.2 ?_)))))))))));have S:=S.f1.f1.f2;exact aok M S aH aG aS aej aek dA dJ eE ael H
 · have M:=aV hc M;repeat refine ax (by decide) ?_;refine aW.2 ?_;have S:=S.f1.f1.f2;exact aok M S aH aG aS aej aek dA dJ eE ael H
theorem aAD {w0:World} [fQ w0] {c g h E R r N aq v21 v2 v1 cH dV dW fO av aA az aR}  (M:Nc N aq v21 v2 v1=some r)(S:Sep c g h [.bx cH (ZZA aq dV dW),.bx av (ZZB v1 aA az aR)])(dA:aa ah.rep 4 g dV aq.ab)(dJ:aa al.rep 3 g dW aq.aI)(eE:aa rB 1 g fO v21)(aH:aa aZ.rep 4 g aA v1.bE)(aG:aa bD.rep 4 g az v1.bw)(aS:aa ae.rep 7 g aR v1.bp)  (H:ll c R r):aa4 w0 E R (ak cH 0) fO (.bool v2) (ak av 0) h:=by
 unfold aa4;unfold Nc at M;refine aQ.2 (S.aP 0 rfl rfl (dA.len (lB.2 ?_)));obtain⟨FZ,aem,M⟩:=bind_some M;refine aa.idx eE aem (fun aAE aAF vs aJ6 aAG rp=>?_);cases rp;refine S.dK (aAG 0 _ rfl) (dZ.2 (bR (fun hc=>?_) (fun hc=>?_)))
 · have M:=aV hc M;cases M;exact H _ _  S.bO
 · have M:=aX hc M;exact aAB M S dA dJ eE aH aG aS H
theorem aoo {w0:World} [fQ w0] {c g h E R r N aq v21 v2 v1 yc cH dV dW fO av aA az aR}  (M:Nd N aq v21 v2 v1 yc=some r)(S:Sep c g h [.bx cH (ZZA aq dV dW),.bx av (ZZB v1 aA az aR)])(dA:aa ah.rep 4 g dV aq.ab)(dJ:aa al.rep 3 g dW aq.aI)(eE:aa rB 1 g fO v21)(aH:aa aZ.rep 4 g aA v1.bE)(aG:aa bD.rep 4 g az v1.bw)(aS:aa ae.rep 7 g aR v1.bp)  (H:ll c R r):aa5 w0 E R (ak cH 0) fO (.bool v2) (ak av 0) (.bool yc) h:=by
 unfold aa5;unfold Nd at M;refine bR (fun hc=>?_) (fun hc=>?_)
 · have M:=aV hc M;cases M;exact H _ _  S.bO
 · have M:=aX hc M;exact aAD M S dA dJ eE aH aG aS H
theorem aAH {w0:World} [fQ w0] {c g h E R r N aq ct v21 v2 v1 cH dV dW tT sC fO av aA az aR}  (M:Nf N aq ct v21 v2 v1=some r)(S:Sep c g h [.bx cH (ZZA aq dV dW),.sl 4 1 tT sC,.bx av (ZZB v1 aA az aR)])(dA:aa ah.rep 4 g dV aq.ab)(dJ:aa al.rep 3 g dW aq.aI)(xp:aw (rB g) sC ct)(eE:aa rB 1 g fO v21)(aH:aa aZ.rep 4 g aA v1.bE)(aG:aa bD.rep 4 g az v1.bw)(aS:aa ae.rep 7 g aR v1.bp)  (H:ll c R r):aa6 w0 E R (ak cH 0) tT fO (.bool v2) (ak av 0) h:=by
 unfold aa6;unfold Nf at M;refine S.eA (ZZA aq dV dW) 0 rfl rfl rfl (by decide) ?_;have S:=S.f1;obtain⟨g,sg,S,I6⟩:=S.fz xp lS;have eE:=aa.mono eE lS sg;have dA:=aa.mono dA ah.mono sg;have dJ:=aa.mono dJ al.mono sg;have aH:=aa.mono aH aZ.mono sg;have aG:=aa.mono aG bD.mono sg;have aS:=aa.mono aS ae.mono sg;obtain⟨j8,F9,M⟩:=bind_some M;refine aol F9 S.sub S.ok dA dJ I6 (fun g h aen aeo aJ7 S1 aop aoq aJ8=>?_);have I6:=aa.mono I6 lS S1.bF;have eE:=aa.mono eE lS S1.bF;have dA:=aa.mono dA ah.mono S1.bF;have dJ:=aa.mono dJ al.mono S1.bF;have aH:=aa.mono aH aZ.mono S1.bF;have aG:=aa.mono aG bD.mono S1.bF;have aS:=aa.mono aS ae.mono S1.bF;have S:=S.ou S1;refine(fk rfl).2 ?_;refine(fk rfl).2 ?_;refine(fk rfl).2 ?_;refine S.alloc (l:=[(.string (⟨⟨[]⟩⟩:ByteArray)),(.string (⟨⟨[]⟩⟩:ByteArray)),vi 0,vi 0,vi 0,bJ,bJ]) (ag rfl (ag rfl (ag rfl (ag rfl (ag rfl (ag rfl (ag rfl rfl))))))) (fun aAI h S=>?_);refine S.cV [.string j8.1.aC,.string j8.1.ay,vi j8.1.fArgs,vi j8.1.aE,vi j8.1.aD,aen,aeo] [.string j8.1.aC,.string j8.1.ay,vi j8.1.fArgs,vi j8.1.aE,vi j8.1.aD,aen,aeo] rfl rfl (ag rfl (ag rfl (ag rfl (ag rfl (ag rfl (ag aop.one (ag aoq.one rfl))))))) (zaa rfl) rfl (fun h S=>?_);refine S.eA [.string j8.1.aC,.string j8.1.ay,vi j8.1.fArgs,vi j8.1.aE,vi j8.1.aD,aen,aeo] 0 rfl rfl rfl (by decide) (S.eA (ZZA aq dV dW) 1 rfl rfl rfl (by decide) ?_);obtain⟨U6,aep,M⟩:=bind_some M;refine aAJ aep S.sub S.ok aop aoq dA dJ (fun _ h  S1  =>?_);have S:=S.dz S1;refine gb.2 ?_;cases hc:(!decide (j8.2.2=0))
 · have M:=aX hc M;refine au rfl (au rfl (dZ.2 (aW.2 ?_)));have S:=S.f2.f2.t2;exact aoo M S dA dJ eE aH aG aS H
 · have M:=aV hc M;repeat refine ax (by decide) ?_;refine aW.2 ?_;have S:=S.f2.f2.t2;exact aoo M S dA dJ eE aH aG aS H
theorem aAK {w0:World} [fQ w0] {c g h E R r N ct aq v21 v2 v1 iT tT sC cH dV dW fO av aA az aR tn tQ C4}(M:F0 N ct aq v21 v2 v1 iT tQ=some r)(S:Sep c g h [.sl 4 1 tT sC,.bx cH (ZZA aq dV dW),.bx av (ZZB v1 aA az aR)])(xp:aw (rB g) sC ct)(dA:aa ah.rep 4 g dV aq.ab)(dJ:aa al.rep 3 g dW aq.aI)(eE:aa rB 1 g fO v21)(aH:aa aZ.rep 4 g aA v1.bE)(aG:aa bD.rep 4 g az v1.bw)(aS:aa ae.rep 7 g aR v1.bp)(Nk:Sub C4 g)(Nl:∀{ar:Int}{di:List Bool}{fK:List (ZZE)}{g2 h2:AH},tQ ar di=some r→Sub C4 g2→Sep c g2 h2 [.sl 4 1 tT fK,.bx cH (ZZA aq dV dW),.bx av (ZZB v1 aA az aR)]→aw (rB g2) fK di→tn (vi ar) h2)(H:ll c R r):Sz w0 E R tT (ak cH 0) fO (.bool v2) (ak av 0) tn (vi iT) h:=by
 unfold Sz;unfold F0 at M;refine S.Nt 0 rfl xp (fj.2 (bR (fun hc=>?_) (fun hc=>?_)))
 · have M:=aV hc M;exact azV M S xp dA dJ aH aG aS Nk Nl H
 · have M:=aX hc M;have S:=S.f2.f1.f2;exact aAH M S dA dJ xp eE aH aG aS H
theorem aAL {w0:World} [fQ w0] {c E R r N aq v21 v2 v1 tT cH dV dW fO av aA az aR}   (H:ll c R r):∀(n:Nat){ct:List Bool}{iT:Int}{sC:List (ZZE)}{g h:AH},F4 N aq v21 v2 v1 n ct iT=some r→Sep c g h [.sl 4 1 tT sC,.bx cH (ZZA aq dV dW),.bx av (ZZB v1 aA az aR)]→aw (rB g) sC ct→aa ah.rep 4 g dV aq.ab→aa al.rep 3 g dW aq.aI→aa rB 1 g fO v21→aa aZ.rep 4 g aA v1.bE→aa bD.rep 4 g az v1.bw→aa ae.rep 7 g aR v1.bp→gg (α:=Z) (fun k a=>Sz w0 E R tT (ak cH 0) fO (.bool v2) (ak av 0) k a) n (vi iT) h:=by
 intro n
 induction n with
 | zero=>
  intro ct iT sC g h M S xp dA dJ eE aH aG aS ;unfold F4 at M;cases M
 | succ n ih=>
  intro ct iT sC g h M S xp dA dJ eE aH aG aS ;exact aAK M S xp dA dJ eE aH aG aS  (Sub.refl g) (fun M2 sub S2 Bc=>ih M2 S2 Bc (aa.mono dA ah.mono sub) (aa.mono dJ al.mono sub) (aa.mono eE lS sub) (aa.mono aH aZ.mono sub) (aa.mono aG bD.mono sub) (aa.mono aS ae.mono sub)) H
theorem aAM {w0:World} [fQ w0] {c g h E R r N v1 x1 v2 av aA az aR}  (M:Nh N v1 x1 v2=some r)(S:Sep c g h [.bx av (ZZB v1 aA az aR)])(aH:aa aZ.rep 4 g aA v1.bE)(aG:aa bD.rep 4 g az v1.bw)(aS:aa ae.rep 7 g aR v1.bp)  (H:ll c R r):aa9 w0 E R (ak av 0) (.int .u8 x1) (.bool v2) h:=by
 unfold aa9;unfold Nh at M;refine aQ.2 (S.aP 0 rfl rfl (FF.2 (aQ.2 (S.aP 0 rfl rfl (aS.len ?_)))));obtain⟨aAN,M⟩:=nE M;refine(axX (by simpa using aAN)).2 ?_;obtain⟨gj,aeq,M⟩:=bind_some M;refine aa.idx aS aeq (fun Nu aAO vs aor aer rp=>?_);obtain⟨aes,aet,rfl,I7,Nv⟩:=rp;refine S.iX aer rfl (by decide) (S.alloc (l:=[(.string (⟨⟨[]⟩⟩:ByteArray)),(.string (⟨⟨[]⟩⟩:ByteArray)),vi 0,vi 0,vi 0,bJ,bJ]) (ag rfl (ag rfl (ag rfl (ag rfl (ag rfl (ag rfl (ag rfl rfl))))))) (fun aAP h S=>?_));refine S.cV (ZZA gj aes aet) (ZZA gj aes aet) rfl rfl (ag rfl (ag rfl (ag rfl (ag rfl (ag rfl (ag I7.one (ag Nv.one rfl))))))) (zaa rfl) rfl (fun h S=>?_);refine S.eA (ZZA gj aes aet) 0 rfl rfl rfl (by decide) ?_;obtain⟨sB,Bd,M⟩:=bind_some M;refine aog Bd S.sub S.ok I7 Nv (fun g h U9 S1 Va=>?_);have aS:=aa.mono aS ae.mono S1.bF;have aer:=S1.bF.bH aer;have I7:=aa.mono I7 ah.mono S1.bF;have Nv:=aa.mono Nv al.mono S1.bF;have aH:=aa.mono aH aZ.mono S1.bF;have aG:=aa.mono aG bD.mono S1.bF;have S:=S.ou S1;refine aQ.2 (S.aP 0 rfl rfl (I7.len ?_));obtain⟨aAQ,M⟩:=nE M;refine S.Nw aAQ rfl (ag rfl rfl) (fun aJ9 h S=>?_);have aAR:aw (rB g) (List.replicate (gj.ab.length:Int).toNat [.bool false]) (List.replicate (gj.ab.length:Int).toNat false):=aw.I8 (show rB g [.bool false] false from rfl) _;exact⟨N,aAL  H _ M S aAR I7 Nv Va aH aG aS⟩
theorem aAS {w0:World} [fQ w0] {c g h E R r N v1 v2 x1 av aA az aR}  (M:Ni N v1 v2 x1=some r)(S:Sep c g h [.bx av (ZZB v1 aA az aR)])(aH:aa aZ.rep 4 g aA v1.bE)(aG:aa bD.rep 4 g az v1.bw)(aS:aa ae.rep 7 g aR v1.bp)  (H:ll c R r):aba w0 E R (ak av 0) (.bool v2) (.int .u8 x1) h:=by
 unfold aba;unfold Ni at M;refine S.eA (ZZB v1 aA az aR) 0 rfl rfl rfl (by decide) ?_;obtain⟨IZ,aAT,M⟩:=bind_some M;refine aAU aAT S.sub S.ok aH aG aS (fun _ h  S1  =>?_);have S:=S.dz S1;refine(fk rfl).2 ?_;refine(fk rfl).2 ?_;refine S.alloc (l:=[vi 0,vi 0]) (ag rfl (ag rfl rfl)) (fun b_8 h S=>?_);refine S.cV [vi IZ.2.cR,vi IZ.2.bG] [vi IZ.2.cR,vi IZ.2.bG] rfl rfl (ag rfl (ag rfl rfl)) (zaa rfl) rfl (fun h S=>?_);refine gb.2 (bR (fun hc=>?_) (fun hc=>?_))
 · have M:=aV hc M;cases M;exact H _ _  S.bO
 · have M:=aX hc M;have S:=S.f1.t1;exact aAM M S aH aG aS H
theorem aun {w0:World} [fQ w0] {g h Q r N x0 x1 cw cx iY}(M:U7 N x0 x1=some r)(sg:Sub g h)(ok:h.Ok)(cg:aa aZ.rep 4 g cw x0.bE)(cz:aa bD.rep 4 g cx x0.bw)(jF:aa ae.rep 7 g iY x0.bp)(H:ll ⟨g,h,[]⟩ (fun v=>Q (.ret v)) r):WF PP w0 aiW [(.agg ⟨(ZZB x0 cw cx iY)⟩),.int .u8 x1] h Q:=by
 refine aug _ _ ?_;have S:=Sep.start sg ok;unfold aiV;unfold U7 at M;refine S.box (ZZB x0 cw cx iY) rfl (ag cg.one (ag cz.one (ag jF.one (ag rfl (ag rfl rfl))))) (fun jN h S=>?_);obtain⟨cv,nS,M⟩:=bind_some M;refine aze S.sub S.ok nS (fun _ h  S1  =>?_);have S:=S.dz S1;refine S.eA (ZZB x0 cw cx iY) 0 rfl rfl rfl (by decide) ?_;obtain⟨fq,Be,M⟩:=bind_some M;refine azS Be S.sub S.ok cg cz jF (fun _ h  S1  =>?_);have S:=S.dz S1;refine dZ.2 (bR (fun hc=>?_) (fun hc=>?_))
 · have M:=aV hc M;cases M;exact H _ _  S.bO
 · have M:=aX hc M;exact aAS M S cg cz jF H
end
end Go.Ve.T
namespace Go.Ve.T
open Go.Ve
noncomputable section
theorem rD (x a b:Int):kb x a b=some (decide (a≤x∧x≤b)):=by
 unfold kb
 by_cases h:a≤x<;>simp [h]
theorem BL {α:Type}{l:List α}{x:Int}(h1:0≤x)(h2:x<l.length):∃y,ix l x=some y:=by
 obtain⟨n,rfl⟩:=zaY h1;have:n<l.length:=by omega
 exact⟨l[n],zab this⟩
def zO {α β:Type}(st:Int→α→Option (Option β)) (fin:Option β):List α→Int→Option β | [],_=>fin | a::r,y=>match st y a with | some b=>b | none=>zO st fin r (y+1)
theorem Hc {α β}(l:List α)(I:Nat→Int→Option β)(st:Int→α→Option (Option β))(fin:Option β)(hl:l.length<1000000)
 (step:∀n (y:Int) a,y<l.length→ix l y=some a→I (n+1) y=match st y a with | some b=>b | none=>I n (bN .i64 (y+1)))
 (stop:∀n,I (n+1) (l.length:Int)=fin):∀(n i:Nat),i≤l.length→l.length<n+i→I n (i:Int)=zO st fin (l.drop i) i
 | 0,i,h1,h2=>by omega
 | n+1,i,h1,h2=>by
  by_cases hi:i<l.length
  · have ea:ix l (i:Int)=some l[i]:=zab hi;rw [step n i l[i] (by omega) ea,List.drop_eq_getElem_cons hi];show _=match st i l[i]with | some b=>b | none=>zO st fin (l.drop (i+1)) ((i:Int)+1)
    cases st i l[i]with
    | some b=>rfl
    | none=>
     show I n (bN .i64 ((i:Int)+1))=_;rw [jv (by omega) (by omega)];have:=Hc l I st fin hl step stop n (i+1) hi (by omega);rw [show((i+1:Nat):Int)=(i:Int)+1 from rfl]at this;exact this
  · have:i=l.length:=by omega
    subst this;rw [stop,List.drop_length];rfl
def lZ {α:Type}(p:α→Bool):List α→Int→Int | [],_=> -1 | a::r,y=>bif p a then y else lZ p r (y+1)
theorem QG {α}(p:α→Bool):∀(l:List α) (y:Int),zO (fun y a=>bif p a then some (some y)else none) (some (-1)) l y=some (lZ p l y)
 | [],y=>rfl
 | a::r,y=>by
  unfold zO lZ;cases p a with
  | true=>rfl
  | false=>exact QG p r (y+1)
theorem ahe {α}(p:α→Bool):∀(l:List α) (y:Int),0≤y→lZ p l y= -1∨∃(k:Nat) (a:α),l[k]? =some a∧p a=true∧lZ p l y=y+k
 | [],y,_=>.inl rfl
 | a::r,y,hy=>by
  unfold lZ;cases hp:p a with
  | true=>exact .inr ⟨0,a,rfl,hp,(Int.add_zero y).symm⟩
  | false=>
   rcases ahe p r (y+1) (by omega)with h | ⟨k,b,h1,h2,h3⟩
   · exact .inl h
   · refine .inr ⟨k+1,b,h1,h2,?_⟩;show lZ p r (y+1)=_;rw [h3];omega
theorem Xh {σ β}(I:Nat→σ→Int→Option β)(hi:Nat)(Inv:Nat→σ→Prop)
 (step:∀n (i:Nat) s,i<hi→Inv i s→∃s',Inv (i+1) s'∧I (n+1) s (i:Int)=I n s' ((i:Int)+1)):∀n (i:Nat) s,Inv i s→i≤hi→hi<n+i→∃n' s',Inv hi s'∧I n s (i:Int)=I (n'+1) s' (hi:Int)
 | 0,i,s,h,h1,h2=>by omega
 | n+1,i,s,h,h1,h2=>by
  by_cases e:i<hi
  · obtain⟨s',h3,h4⟩:=step n i s e h;obtain⟨n',s2,h5,h6⟩:=Xh I hi Inv step n (i+1) s' h3 e (by omega);exact⟨n',s2,h5,h4.trans h6⟩
  · have:i=hi:=by omega
    subst this;exact⟨n,s,h,rfl⟩
def jy (i:ah):Option Int:=if i.aJ=24 then some i.fA else if i.aJ=25∨i.aJ=32 then some i.fB else none
theorem arM (n:Nat)(i:ah)(ho:isOp i.aJ=true):Gf (n+4) i=some (jy i).toList:=by
 unfold Gf Db jy;rcases MH ho with h | h | h | h | h | h | h | h | h | h | h | h | h | h | h | h | h | h | h | h | h | h | h | h | h | h | h | h | h | h | h | h | h | h<;>rw [h]<;>rfl
theorem arN (N:Nat)(l:List al)(f:al→Option Bool)(p:al→Bool)(hf:∀a,f a=some (p a))(hl:l.length<1000000)(hN:l.length<N):Jh N l f=some (lZ p l 0):=by
 unfold Jh;rw [←QG]
 exact Hc l (fun n y=>Jg N (l.length:Int) l f n y) _ _ hl (fun n y a hy ha=>by
  show(bif decide (y<(l.length:Int))then((ix l y).bind fun gi=>(f gi).bind fun eR=>bif eR then some y else Jg N (l.length:Int) l f n (bN .i64 (y+1)))else some (-1))=_;rw [zac hy,ha];show((f a).bind _)=_;rw [hf];cases p a<;>rfl) (fun n=>by
  show(bif decide ((l.length:Int)<(l.length:Int))then _ else some (-1))=_;rw [zag (zby _)];rfl) N 0 (zaz _) (by omega)
theorem arO (N:Nat)(l:ZZD)(f:Int→Option Bool)(p:Int→Bool)(hf:∀a,f a=some (p a))(hl:l.length<1000000)(hN:l.length<N):NL N l f=some (lZ p l 0):=by
 unfold NL;rw [←QG]
 exact Hc l (fun n y=>Je N (l.length:Int) l f n y) _ _ hl (fun n y a hy ha=>by
  show(bif decide (y<(l.length:Int))then((ix l y).bind fun gi=>(f gi).bind fun eR=>bif eR then some y else Je N (l.length:Int) l f n (bN .i64 (y+1)))else some (-1))=_;rw [zac hy,ha];show((f a).bind _)=_;rw [hf];cases p a<;>rfl) (fun n=>by
  show(bif decide ((l.length:Int)<(l.length:Int))then _ else some (-1))=_;rw [zag (zby _)];rfl) N 0 (zaz _) (by omega)
theorem arP {α β}(p:α→Bool)(b:β)(fin:Option β):∀(l:List α) (y:Int),zO (fun _ a=>bif p a then none else some (some b)) fin l y=bif l.all p then fin else some b
 | [],_=>rfl
 | a::r,y=>by
  unfold zO;rw [List.all_cons];cases p a with
  | false=>rfl
  | true=>exact arP p b fin r (y+1)
theorem arQ {α}(p:α→Bool)(l:List α):decide (0≤lZ p l 0)=l.any p:=by
 have key:∀(l:List α) (y:Int),0≤y→decide (0≤lZ p l y)=l.any p:=by
  intro l
  induction l with
  | nil=>intro y _;rfl
  | cons a r ih=>
   intro y hy;unfold lZ;rw [List.any_cons];cases p a with
   | true=>exact zac hy
   | false=>exact ih (y+1) (by omega)
 exact key l 0 (zbs 0)
def BM (n:Int) (i:ah):Bool:=isOp i.aJ&&(match jy i with | some x=>decide (0≤x∧x≤n-1) | none=>true)
def oM (n:Int) (g:al):Bool:=decide (g.dk<0)||(decide (g.dO≤g.dk)||(decide (n<g.dO)|| !decide (0≤g.bG∧g.bG≤n-1)))
def vw (u:ae):Bool:=decide (1≤(u.ab.length:Int)∧(u.ab.length:Int)≤600)&&(!decide (40<(u.aI.length:Int))&&(decide (0≤u.aE∧u.aE≤200)&&(decide (0≤u.aD∧u.aD≤200)&&(u.ab.all (BM u.ab.length)&& !u.aI.any (oM u.ab.length)))))
theorem aHC (n:Int)(hn:bN .i64 (n-1)=n-1)(g:al):Jk g n=some (oM n g):=by
 unfold Jk NO NN oM;rw [rD,hn];cases decide (g.dk<0)<;>cases decide (g.dO≤g.dk)<;>cases decide (n<g.dO)<;>rfl
theorem aHD (N:Nat)(hN:1000≤N)(u:ae)(hl:u.ab.length≤600)(hg:u.aI.length≤40):NQ N u (u.ab.length:Int)=some (u.ab.all (BM u.ab.length)&& !u.aI.any (oM u.ab.length)):=by
 have hw:bN .i64 ((u.ab.length:Int)-1)=(u.ab.length:Int)-1:=jv (by omega) (by omega)
 have aHE:Jm N u (u.ab.length:Int)=some (!u.aI.any (oM u.ab.length)):=by
  unfold Jm Vq;rw [arN N u.aI _ (oM u.ab.length) (fun a=>aHC _ hw a) (by omega) (by omega)];show some (!decide (0≤lZ (oM u.ab.length) u.aI 0))=_;rw [arQ]
 obtain⟨n,rfl⟩:∃n,N=n+4:=⟨N-4,by omega⟩;unfold NQ;have h:=Hc u.ab (fun m y=>NP (n+4) (u.ab.length:Int) u.ab (u.ab.length:Int) u m y) (fun _ a=>bif BM u.ab.length a then none else some (some false)) (some (!u.aI.any (oM u.ab.length))) (by omega)
  (fun m y a hy ha=>by
   show(bif decide (y<(u.ab.length:Int))then((ix u.ab y).bind fun gj=>(some (ez gj.aJ,isOp gj.aJ)).bind fun ke=>bif (!ke.2)then Jl (n+4) y true u _ else((Gf (n+4) gj).bind fun Vr=>(Gj (n+4) Vr (fun a0=>Jj a0 (u.ab.length:Int))).bind fun pU=>Jl (n+4) y pU u _))else _)=_;rw [zac hy,ha];simp only [zaf,zam];unfold BM;cases ho:isOp a.aJ with
   | false=>rfl
   | true=>
    rw [arM n a ho];simp only [zaf,zas,zak,zbE];unfold Gj;have hlen:(jy a).toList.length≤1:=by cases jy a<;>simp
    rw [arO (n+4) _ _ (fun x=> !decide (0≤x∧x≤(u.ab.length:Int)-1)) (fun x=>by unfold Jj;rw [rD,hw];rfl) (by omega) (by omega)];simp only [zaf];rw [arQ];cases jy a with
    | none=>rfl
    | some x=>
     have e1:((some x).toList.any fun x=> !decide (0≤x∧x≤(u.ab.length:Int)-1))= !decide (0≤x∧x≤(u.ab.length:Int)-1):=by simp
     rw [e1];dsimp only
     by_cases hd:0≤x∧x≤(u.ab.length:Int)-1
     · rw [zac hd];rfl
     · rw [zag hd];rfl)
  (fun m=>by
   show(bif decide ((u.ab.length:Int)<(u.ab.length:Int))then _ else Jm (n+4) u (u.ab.length:Int))=_;rw [zag (zby _)];exact aHE) (n+4) 0 (zaz _) (by omega)
 refine h.trans ?_;rw [zbB,arP];cases u.ab.all (BM u.ab.length)<;>rfl
theorem Xi (N:Nat)(hN:1000≤N)(u:ae):Dc N u=some (vw u):=by
 unfold Dc vw NU NS NR;rw [rD,rD,rD]
 by_cases h1:1≤(u.ab.length:Int)∧(u.ab.length:Int)≤600
 · rw [zac h1]
   by_cases h2:40<(u.aI.length:Int)
   · rw [zac h2];rfl
   · rw [zag h2,aHD N hN u (by omega) (by omega)];cases decide (0≤u.aE∧u.aE≤200)<;>cases decide (0≤u.aD∧u.aD≤200)<;>rfl
 · rw [zag h1];rfl
theorem El {ρ}(len:Nat)(I:Nat→Nat→Option ρ)(F:Option ρ)(step:∀n i,i<len→I (n+1) i=I n (i+1))(stop:∀n,I (n+1) len=F):∀n i,i≤len→len<n+i→I n i=F
 | 0,i,h1,h2=>by omega
 | n+1,i,h1,h2=>by
  by_cases hi:i<len
  · rw [step n i hi];exact El len I F step stop n (i+1) hi (by omega)
  · have:i=len:=by omega
    subst this;exact stop n
theorem qN (i:Nat)(h:i<1000000):bN .i64 ((i:Int)+1)=((i+1:Nat):Int):=by rw [jv (by omega) (by omega)];rfl
theorem qM (i n:Nat)(h:i<n):decide ((i:Int)<(n:Int))=true:=zac (by omega)
theorem qO (n:Nat):decide ((n:Int)<(n:Int))=false:=zag (zby _)
def l4 (bt:List Bool) (i:Nat):Nat:=(bt.take i).count true
def dU (bt:List Bool) (n:Nat):ZZD:=(List.range n).map fun j=>(l4 bt j:Int)
def uD (A:ZZD) (x:ah):ah:=if x.aJ=24 then⟨x.aJ,A.getD x.fA.toNat 0,x.fB,x.fC⟩else if x.aJ=25∨x.aJ=32 then⟨x.aJ,x.fA,A.getD x.fB.toNat 0,x.fC⟩else x
def vx (A:ZZD) (code:List ah) (bt:List Bool) (i:Nat):List ah:=(List.range i).filterMap fun j=>match bt[j]?,code[j]? with | some true,some x=>some (uD A x) | _,_=>none
def qP (A:ZZD) (g:al):al:=⟨A.getD g.dk.toNat 0,A.getD g.dO.toNat 0,A.getD g.bG.toNat 0⟩
def vy (A:ZZD) (gs:List al) (i:Nat):List al:=(List.range i).filterMap fun j=>match gs[j]? with | some g=>if (qP A g).dk<(qP A g).dO then some (qP A g)else none | none=>none
theorem ar9 (bt:List Bool)(i:Nat)(b:Bool)(h:bt[i]? =some b):l4 bt (i+1)=l4 bt i+(if b then 1 else 0):=by
 unfold l4;rw [List.take_add_one,h,List.count_append];cases b<;>simp
theorem asa (bt:List Bool)(i:Nat):l4 bt i≤i:=by
 unfold l4;exact zay List.count_le_length (by rw [za3];exact Nat.min_le_left _ _)
theorem aHV (bt:List Bool){i j:Nat}(h:i≤j):l4 bt i≤l4 bt j:=by
 unfold l4;have e:bt.take i=(bt.take j).take i:=by rw [List.take_take,Nat.min_eq_left h]
 rw [e];exact(List.take_sublist _ _).count_le _
theorem asb (bt:List Bool)(i:Nat):dU bt (i+1)=dU bt i++[(l4 bt i:Int)]:=by unfold dU;rw [List.range_succ,List.map_append];rfl
theorem QJ (bt:List Bool)(n:Nat):(dU bt n).length=n:=by unfold dU;simp
theorem Kn (bt:List Bool)(n:Nat)(x:Int)(h0:0≤x)(h1:x<n):ix (dU bt n) x=some ((dU bt n).getD x.toNat 0):=by
 obtain⟨k,rfl⟩:=zaY h0;have:k<(dU bt n).length:=by rw [QJ];omega
 rw [gG,zau,zaH,zab this];rfl
theorem zP (bt:List Bool)(n k:Nat)(h:k<n):(dU bt n).getD k 0=(l4 bt k:Int):=by
 unfold dU;simp [zaH,h]
structure BQ (u:ae) (bt:List Bool):Prop where
 pl:vw u=true
 len:bt.length=u.ab.length
theorem BQ.n1 {u bt}(H:BQ u bt):1≤u.ab.length∧u.ab.length≤600∧u.aI.length≤40:=by
 have:=H.pl;unfold vw at this;simp only [zae,zap,zbc,zbk]at this;omega
theorem BQ.jmp {u bt}(H:BQ u bt){i:Nat}{x:ah}(hx:u.ab[i]? =some x){p:Int}(hp:jy x=some p):0≤p∧p<u.ab.length:=by
 have:=H.pl;unfold vw at this;simp only [zae]at this;have h:=List.all_eq_true.1 this.2.2.2.2.1 x (zat hx);unfold BM at h;rw [hp]at h;simp only [zae,zap]at h;omega
theorem BQ.BR {u bt}(H:BQ u bt){i:Nat}{g:al}(hg:u.aI[i]? =some g):0≤g.dk∧g.dk<g.dO∧g.dO≤u.ab.length∧0≤g.bG∧g.bG<u.ab.length:=by
 have:=H.pl;unfold vw at this;simp only [zae,zbc,List.any_eq_false]at this;have h:=this.2.2.2.2.2 g (zat hg);unfold oM at h;simp only [zbi,zap,zbc,zbk,not_or,Decidable.not_not]at h;omega
theorem ahm (A:ZZD)(code:List ah)(bt:List Bool)(i:Nat){k:Bool}{x:ah}(hk:bt[i]? =some k)(hx:code[i]? =some x):vx A code bt (i+1)=if k then vx A code bt i++[uD A x]else vx A code bt i:=by
 unfold vx;rw [List.range_succ,List.filterMap_append];cases k<;>simp [hk,hx]
theorem aHW (A:ZZD)(code:List ah)(bt:List Bool)(i:Nat):(vx A code bt i).length≤i:=by
 unfold vx;exact zay (List.length_filterMap_le _ _) (by simp)
theorem asc (A:ZZD)(gs:List al)(i:Nat){g:al}(hg:gs[i]? =some g):vy A gs (i+1)=if (qP A g).dk<(qP A g).dO then vy A gs i++[qP A g]else vy A gs i:=by
 unfold vy;rw [List.range_succ,List.filterMap_append]
 by_cases h:(qP A g).dk<(qP A g).dO<;>simp [hg,h]
theorem aHX (A:ZZD)(gs:List al)(i:Nat):(vy A gs i).length≤i:=by
 unfold vy;exact zay (List.length_filterMap_le _ _) (by simp)
def Em (u:ae) (bt:List Bool):ae:=⟨u.aC,u.ay,u.fArgs,u.aE,u.aD,vx (dU bt u.ab.length) u.ab bt u.ab.length,vy (dU bt (u.ab.length+1)) u.aI u.aI.length⟩
theorem aHY (N:Nat)(hN:1000≤N)(u:ae)(bt:List Bool)(H:BQ u bt)(v2:ae):Oi N u bt v2=some (Em u bt,dU bt u.ab.length,0):=by
 obtain⟨n1,n2,n3⟩:=H.n1;have hl:=H.len;unfold Oi
 have gl:∀C:List ah,Jr N (u.aI.length:Int) u.aI (dU bt (u.ab.length+1)) (dU bt u.ab.length) v2 N u.aC u.ay u.fArgs u.aE u.aD C [] 0=some (⟨u.aC,u.ay,u.fArgs,u.aE,u.aD,C,vy (dU bt (u.ab.length+1)) u.aI u.aI.length⟩,dU bt u.ab.length,0):=fun C=>by
  refine(El u.aI.length (fun n i=>Jr N (u.aI.length:Int) u.aI (dU bt (u.ab.length+1)) (dU bt u.ab.length) v2 n u.aC u.ay u.fArgs u.aE u.aD C (vy (dU bt (u.ab.length+1)) u.aI i) (i:Int)) _ (fun n i hi=>?_) (fun n=>?_) N 0 (zaz _) (by omega))
  · show Gu N _ _ _ _ _ _ _ _ _ _ _ _ _ _=_;unfold Gu VT Of;have hg:u.aI[i]? =some u.aI[i]:=zab hi;obtain⟨g1,g2,g3,g4,g5⟩:=H.BR hg;generalize u.aI[i]=g at*;rw [qM i _ hi,gG,hg];simp only [zaf,zam];rw [Kn _ _ _ g1 (by omega),Kn _ _ _ (by omega) (by omega),Kn _ _ _ g4 (by omega),asc _ _ _ hg,qN i (by omega)];simp only [zaf];have he:(dU bt u.ab.length).getD g.bG.toNat 0=(dU bt (u.ab.length+1)).getD g.bG.toNat 0:=by rw [zP _ _ _ (by omega),zP _ _ _ (by omega)]
    rw [he];have hlen:=aHX (dU bt (u.ab.length+1)) u.aI i
    by_cases hc:(qP (dU bt (u.ab.length+1)) g).dk<(qP (dU bt (u.ab.length+1)) g).dO
    · rw [if_pos hc,show decide ((dU bt (u.ab.length+1)).getD g.dk.toNat 0<(dU bt (u.ab.length+1)).getD g.dO.toNat 0)=true from zac hc];rw [show decide ((vy (dU bt (u.ab.length+1)) u.aI i).length+[(al.mk ((dU bt (u.ab.length+1)).getD g.dk.toNat 0) ((dU bt (u.ab.length+1)).getD g.dO.toNat 0) ((dU bt (u.ab.length+1)).getD g.bG.toNat 0))].length≤1048576)=true from zac (by simp;omega)];rfl
    · rw [if_neg hc,show decide ((dU bt (u.ab.length+1)).getD g.dk.toNat 0<(dU bt (u.ab.length+1)).getD g.dO.toNat 0)=false from zag hc];rfl
  · show Gu N _ _ _ _ _ _ _ _ _ _ _ _ _ _=_;unfold Gu;rw [qO];rfl
 have aHZ:Og N (dU bt u.ab.length) (l4 bt u.ab.length:Int) u u.aC u.ay u.fArgs u.aE u.aD (vx (dU bt u.ab.length) u.ab bt u.ab.length) [] v2=some (Em u bt,dU bt u.ab.length,0):=by
  unfold Og abc;rw [QJ,show decide (u.ab.length≤1048576)=true from zac (by omega)];show gu (decide ((dU bt u.ab.length).length+1≤1048576)) _=_;rw [QJ,show decide (u.ab.length+1≤1048576)=true from zac (by omega),←asb];exact gl _
 have cl:Js N (u.ab.length:Int) u.ab bt (dU bt u.ab.length) (l4 bt u.ab.length:Int) u v2 N u.aC u.ay u.fArgs u.aE u.aD [] [] 0=some (Em u bt,dU bt u.ab.length,0):=by
  refine(El u.ab.length (fun n i=>Js N (u.ab.length:Int) u.ab bt (dU bt u.ab.length) (l4 bt u.ab.length:Int) u v2 n u.aC u.ay u.fArgs u.aE u.aD (vx (dU bt u.ab.length) u.ab bt i) [] (i:Int)) _ (fun n i hi=>?_) (fun n=>?_) N 0 (zaz _) (by omega))
  · show Gv N _ _ _ _ _ _ _ _ _ _ _ _ _ _ _ _=_;unfold Gv VK VJ Oe Jq Od;have hx:u.ab[i]? =some u.ab[i]:=zab hi;have hk:bt[i]? =some bt[i]:=zab (by omega);have hj:=fun p=>H.jmp hx (p:=p)
    generalize u.ab[i]=x at*;generalize bt[i]=k at*;rw [qM i _ hi,gG,hx,gG,hk];simp only [zaf,zam];rw [ahm _ _ _ _ hk hx,qN i (by omega)];have hlen:=aHW (dU bt u.ab.length) u.ab bt i;have hg:∀y:ah,decide ((vx (dU bt u.ab.length) u.ab bt i).length+[y].length≤1048576)=true:=fun y=>zac (by simp;omega)
    cases k with
    | false=>rfl
    | true=>
     simp only [zas,zak,if_true];unfold uD;unfold jy at hj
     by_cases h1:x.aJ=24
     · have:=hj x.fA (by rw [if_pos h1]);rw [zac h1,if_pos h1,Kn _ _ _ this.1 (by omega)];simp only [zam,zaf,hg];rfl
     · rw [zag h1,if_neg h1]
       by_cases h2:x.aJ=25
       · have:=hj x.fB (by rw [if_neg h1,if_pos (Or.inl h2)]);rw [zac h2,if_pos (Or.inl h2),Kn _ _ _ this.1 (by omega)];simp only [zam,zak,zaf,hg];rfl
       · rw [zag h2]
         by_cases h3:x.aJ=32
         · have:=hj x.fB (by rw [if_neg h1,if_pos (Or.inr h3)]);rw [zac h3,if_pos (Or.inr h3),Kn _ _ _ this.1 (by omega)];simp only [zam,zak,zaf,hg];rfl
         · rw [zag h3,if_neg (by simp [h2,h3])];simp only [zak,hg];rfl
  · show Gv N _ _ _ _ _ _ _ _ _ _ _ _ _ _ _ _=_;unfold Gv;rw [qO];exact aHZ
 have key:=El bt.length (fun n i=>Oh N (bt.length:Int) bt u v2 n u.aC u.ay u.fArgs u.aE u.aD [] [] (dU bt i) (l4 bt i:Int) (i:Int)) (some (Em u bt,dU bt u.ab.length,0)) (fun n i hi=>by
  show Gw N _ _ _ _ _ _ _ _ _ _ _ _ _ _ _=_;unfold Gw VB Oc;have hk:bt[i]? =some bt[i]:=zab hi;have hc:=asa bt i;generalize bt[i]=k at*;rw [qM i _ hi,gG,hk];simp only [zaf,zam];rw [qN i (by omega),qN (l4 bt i) (by omega),show decide ((dU bt i).length+[(l4 bt i:Int)].length≤1048576)=true from zac (by rw [QJ];simp;omega),←asb,ar9 _ _ _ hk];cases k<;>rfl) (fun n=>by
  show Gw N _ _ _ _ _ _ _ _ _ _ _ _ _ _ _=_;unfold Gw VU;rw [qO,hl];exact cl) N 0 (zaz _) (by omega)
 exact key
theorem aH0 (N:Nat)(l:ZZD)(hl:l.length<1000000)(hN:l.length<N):M1 N l l=some true:=by
 unfold M1 Vv;simp only [zaK,zas,zak]
 exact El l.length (fun n i=>NX N l l n (i:Int)) (some true) (fun n i hi=>by
  show Gp N _ _ _ _=_;unfold Gp Vu Vt;rw [qM i _ hi,gG,zab hi];simp only [zaf,zam,zaK,zas,zak];rw [qN i (by omega)]) (fun n=>by
  show Gp N _ _ _ _=_;unfold Gp;rw [qO];rfl) N 0 (zaz _) (by omega)
theorem aH1 (N:Nat)(u:ae)(h1:u.ab.length<1000000)(h2:u.aI.length<1000000)(oi:u.ab.length<N)(hN2:u.aI.length<N):Ng N u u=some true:=by
 unfold Ng N7 N6 N5 N4 N3 N2 VA;simp only [zaK,zas,zak]
 have hG:Jo N u u N 0=some true:=El u.aI.length (fun n i=>Jo N u u n (i:Int)) (some true) (fun n i hi=>by
  show Gr N _ _ _ _=_;unfold Gr Vz Vy;rw [qM i _ hi,gG,zab hi];simp only [zaf,zam,zaK,zbo,bne_self_eq_false,zak];rw [qN i (by omega)]) (fun n=>by
  show Gr N _ _ _ _=_;unfold Gr;rw [qO];rfl) N 0 (zaz _) (by omega)
 exact El u.ab.length (fun n i=>N0 N u u n (i:Int)) (some true) (fun n i hi=>by
  show Gs N _ _ _ _=_;unfold Gs Vx Vw;rw [qM i _ hi,gG,zab hi];simp only [zaf,zam,zaK,zbo,bne_self_eq_false,zak];rw [qN i (by omega)]) (fun n=>by
  show Gs N _ _ _ _=_;unfold Gs;rw [qO];exact hG) N 0 (zaz _) (by omega)
def asd:ae:=⟨⟨⟨[]⟩⟩,⟨⟨[]⟩⟩,0,0,0,[],[]⟩
def pT (u:ae) (bt:List Bool):ae×ZZD×Int:=if¬(vw u=true∧bt.length=u.ab.length)then(asd,[],1)else if bt.getD (u.ab.length-1) false=false then(asd,[],2)else(Em u bt,dU bt u.ab.length,0)
theorem ase (N:Nat)(hN:1000≤N)(u:ae)(bt:List Bool):IY N u bt=some (pT u bt):=by
 unfold IY Oj VV pT;rw [Xi N hN];simp only [zaf];cases hp:vw u with
 | false=>rfl
 | true=>
  by_cases hl:bt.length=u.ab.length
  · have H:BQ u bt:=⟨hp,hl⟩;obtain⟨n1,n2,n3⟩:=H.n1;rw [if_neg (by simp [hl]),show decide ((bt.length:Int)=(u.ab.length:Int))=true from zac (by omega)];simp only [zas,zak];rw [jv (by omega) (by omega),show(bt.length:Int)-1=((u.ab.length-1:Nat):Int) by omega,gG,zaH];have hi:u.ab.length-1<bt.length:=by omega
    rw [zab hi];simp only [zaf,Option.getD_some];cases bt[u.ab.length-1]with
    | false=>rfl
    | true=>simp only [zas,zak];exact aHY N hN u bt H _
  · rw [if_pos (by simp [hl]),show decide ((bt.length:Int)=(u.ab.length:Int))=false from zag (by omega)];rfl
theorem aH2 (u:ae):∃b,MK u=some b:=by
 unfold MK Jp;cases decide ((u.ab.length:Int)≤40)<;>cases decide (600<(u.ab.length:Int))<;>cases decide ((u.ab.length:Int)≤700)<;>cases decide ((u.aI.length:Int)≤8)<;>cases decide (40<(u.aI.length:Int))<;>exact⟨_,rfl⟩
structure gJ (u:ae):Prop where
 pl:vw u=true
theorem gJ.cut {u}(H:gJ u):BQ u (List.replicate u.ab.length true):=⟨H.pl,by simp⟩
theorem gJ.n1 {u}(H:gJ u):1≤u.ab.length∧u.ab.length≤600∧u.aI.length≤40:=H.cut.n1
theorem gJ.jmp {u}(H:gJ u){i:Nat}{x:ah}(hx:u.ab[i]? =some x){p:Int}(hp:jy x=some p):0≤p∧p<u.ab.length:=H.cut.jmp hx hp
theorem gJ.BR {u}(H:gJ u){i:Nat}{g:al}(hg:u.aI[i]? =some g):0≤g.dk∧g.dk<g.dO∧g.dO≤u.ab.length∧0≤g.bG∧g.bG<u.ab.length:=H.cut.BR hg
theorem gJ.op {u}(H:gJ u){i:Nat}{x:ah}(hx:u.ab[i]? =some x):isOp x.aJ=true:=by
 have:=H.pl;unfold vw at this;simp only [zae]at this;have h:=List.all_eq_true.1 this.2.2.2.2.1 x (zat hx);unfold BM at h;exact(Bool.and_eq_true_iff.1 h).1
def rG (i:ah) (k:Int):Int:=if k=1 then i.fA else if k=2 then i.fB else i.fC
def pF (i:ah):ZZD:=(if 0<(ez i.aJ).dF.e0∧rG i (ez i.aJ).dF.e0≠-1 then [rG i (ez i.aJ).dF.e0]else [])++(if 0<(ez i.aJ).dF.e1∧rG i (ez i.aJ).dF.e1≠-1 then [rG i (ez i.aJ).dF.e1]else [])
def BO (i:ah):Int:=if (ez i.aJ).jx=0 then-1 else rG i (ez i.aJ).jx
theorem asf (op:Int):((ez op).dF.e0=0∨(ez op).dF.e0=1∨(ez op).dF.e0=2∨(ez op).dF.e0=3)∧((ez op).dF.e1=0∨(ez op).dF.e1=1∨(ez op).dF.e1=2∨(ez op).dF.e1=3)∧((ez op).jx=0∨(ez op).jx=1)∧(isOp op=false→ez op=Xe):=by
 cases h:isOp op with
 | true=>rcases MH h with h | h | h | h | h | h | h | h | h | h | h | h | h | h | h | h | h | h | h | h | h | h | h | h | h | h | h | h | h | h | h | h | h | h<;>rw [h]<;>refine⟨by decide,by decide,by decide,fun hh=>by cases hh⟩
 | false=>
  have e:ez op=Xe:=by unfold ez;rw [h];rfl
  rw [e];exact⟨.inl rfl,.inl rfl,.inl rfl,fun _=>rfl⟩
theorem aH3 (i:ah){k:Int}(hk:k=1∨k=2∨k=3):ix [i.fA,i.fB,i.fC] (bN .i64 (k-1))=some (rG i k):=by
 rcases hk with rfl | rfl | rfl<;>rfl
theorem aH4 (i:ah):Da i=some ⟨i.fA,i.fB,i.fC⟩:=rfl
theorem ash (N:Nat)(f:Dp)(b:Bool)(i:ah)(l:ZZD)(y:Int)(k:Int)(K:ZZD→Int→Option (ZZD))(hl:l.length≤2)(hy:ix [f.e0,f.e1] y=some k)(hk:k=0∨k=1∨k=2∨k=3):
 GI N f y b i l K=K (l++(if b=true∧0<k∧rG i k≠-1 then [rG i k]else [])) (bN .i64 (y+1)):=by
 unfold GI OI OH OG;rw [hy,zaf];have gl:∀o:Option (ZZD),gu (decide (l.length+[rG i k].length≤1048576)) o=o:=fun o=>by rw [zac (by simp;omega)];rfl
 cases b with
 | false=>simp
 | true=>
  rcases hk with rfl | hk
  · simp
  · have h0:decide (0<k)=true:=zac (by omega);rw [h0,aH4];simp only [zam,zaf,aH3 i hk,zak,gl]
    by_cases h1:rG i k= -1
    · rw [zac h1];simp [h1]
    · rw [zag h1];simp [h1,show 0<k by omega]
theorem aHQ (N:Nat)(hN:1000≤N)(i:ah):OK N i=some (pF i):=by
 obtain⟨n,rfl⟩:∃n,N=n+4:=⟨N-4,by omega⟩;obtain⟨h0,h1,_,hF⟩:=asf i.aJ;unfold OK;show OJ (n+4) (ez i.aJ).dF (isOp i.aJ) i (n+4) [] 0=_;show GI (n+4) _ 0 _ i [] _=_;rw [ash (n+4) _ _ i [] 0 _ _ (by simp) rfl h0];show GI (n+4) _ 1 _ i _ _=_;rw [ash (n+4) _ _ i _ 1 _ _ (by split<;>simp) rfl h1];show some _=_;unfold pF;cases hb:isOp i.aJ with
 | true=>simp
 | false=>rw [hF hb];rfl
theorem aHP (i:ah):Jz i=some (BO i):=by
 obtain⟨_,_,hw,_⟩:=asf i.aJ;unfold Jz BO;show(bif decide ((ez i.aJ).jx=0)then some (-1)else OM i (ez i.aJ))=_;rcases hw with h | h
 · rw [h];rfl
 · unfold OM;rw [h];rfl
def pE (l:List al) (at_:Int):Int:=lZ (fun d=>decide (d.dk≤at_∧at_<d.dO)) l 0
theorem aH5 (N:Nat)(u:ae)(at_:Int)(hl:u.aI.length<1000000)(hN:u.aI.length<N):OB N u at_=some (pE u.aI at_):=by
 unfold OB;rw [arN N u.aI _ (fun d=>decide (d.dk≤at_∧at_<d.dO)) (fun d=>by unfold OA;by_cases h:d.dk≤at_<;>simp [h]) hl hN];rfl
abbrev rE (op:Int):Bool:=(ez op).jP
abbrev rF (i:ah):Bool:=(ez i.aJ).jV
theorem aH6 {l y}(h:0≤pE l y):∃d,ix l (pE l y)=some d∧d∈l:=by
 unfold pE at*;rcases ahe (fun d:al=>decide (d.dk≤y∧y<d.dO)) l 0 (zbs 0)with e | ⟨k,a,h1,_,h3⟩
 · rw [e]at h;omega
 · refine⟨a,?_,zat h1⟩;rw [h3,Int.zero_add,gG];exact h1
def jG (u:ae) (y:Nat) (i:ah):List (Int×Int):=(if rE i.aJ=false∧y+1<u.ab.length then [((y:Int)+1,0)]else [])++((jy i).toList.map fun x=>(x,1))++(if rF i=true∧0≤pE u.aI y then((ix u.aI (pE u.aI y)).toList.map fun d=>(d.bG,2))else [])
theorem Xl {u}(U:gJ u)(N:Nat)(hN:1000≤N)(y:Nat)(hy:y<u.ab.length):Bp N u (y:Int)=some (jG u y u.ab[y]):=by
  have hl:=U.n1.2.1;have hg:=U.n1.2.2;obtain⟨n,rfl⟩:∃n,N=n+4:=⟨N-4,by omega⟩;have ho:=U.op (zab hy);unfold Bp jG;rw [gG,zab hy,zaf,arM n _ ho,zaf,aH5 (n+4) u y (by omega) (by omega),zaf,jv (by omega) (by omega)];have hlen:decide ((jy u.ab[y]).toList.length≤1000)=true:=by cases jy u.ab[y]<;>simp
  rw [hlen];show(bif rF u.ab[y]&&decide (0≤pE u.aI y)then _ else _)=_
  have e1:(bif !(ez u.ab[y].aJ).jP&&decide ((y:Int)+1<(u.ab.length:Int))then [((y:Int)+1,(0:Int))]else [])=(if rE u.ab[y].aJ=false∧y+1<u.ab.length then [((y:Int)+1,0)]else []):=by
    by_cases h1:rE u.ab[y].aJ=false
    · have ma:(ez u.ab[y].aJ).jP=false:=h1
      by_cases h2:y+1<u.ab.length
      · rw [if_pos ⟨h1,h2⟩,ma,zac (by omega)];rfl
      · rw [if_neg fun h=>h2 h.2,ma,zag (by omega)];rfl
    · have ma:(ez u.ab[y].aJ).jP=true:=by cases h:(ez u.ab[y].aJ).jP with
        | true=>rfl
        | false=>exact absurd h h1
      rw [if_neg fun h=>h1 h.1,ma];rfl
  rw [e1];generalize (if rE u.ab[y].aJ=false∧y+1<u.ab.length then [((y:Int)+1,(0:Int))]else [])=L0
  by_cases hr:rF u.ab[y]=true
  · by_cases hd:0≤pE u.aI y
    · obtain⟨d,h1,_⟩:=aH6 hd;rw [if_pos ⟨hr,hd⟩,hr,zac hd,h1];rfl
    · rw [if_neg fun h=>hd h.2,hr,zag hd,zaS];rfl
  · have qX:rF u.ab[y]=false:=by cases h:rF u.ab[y]with
      | true=>exact absurd h hr
      | false=>rfl
    rw [if_neg fun h=>hr h.1,qX,zaS];rfl
def Xm (l:ZZD) (x:Int):ZZD:=if x∈l then l else l++[x]
theorem aH7 {l x y}:y∈Xm l x↔y∈l∨y=x:=by
 unfold Xm;split
 · exact⟨.inl,fun h=>h.elim id fun e=>e▸ ‹_›⟩
 · simp
def Ko (u:ae) (y:Nat) (i:ah):ZZD:=((jG u y i).map fun p=>p.1).foldl Xm []
theorem aH8 (u:ae)(y:Nat)(i:ah):(jG u y i).length≤3:=by
 unfold jG;simp only [zaG,List.length_map];have h1:(if rE i.aJ=false∧y+1<u.ab.length then [((y:Int)+1,(0:Int))]else []).length≤1:=by split<;>simp
 have h2:(jy i).toList.length≤1:=by cases jy i<;>simp
 have h3:(if rF i=true∧0≤pE u.aI y then((ix u.aI (pE u.aI y)).toList.map fun d=>(d.bG,(2:Int)))else []).length≤1:=by
  split
  · rw [List.length_map];cases ix u.aI (pE u.aI y)<;>simp
  · simp
 omega
open Classical
theorem asi {y}:∀{l s:ZZD},y∈l.foldl Xm s↔y∈s∨y∈l
 | [],s=>by simp
 | x::l,s=>by
  rw [List.foldl_cons,asi,aH7,zal];constructor
  · rintro((h | h) | h)<;>simp [h]
  · rintro(h | h | h)<;>simp [h]
theorem En {u y i x}:x∈Ko u y i↔∃k,(x,k)∈jG u y i:=by
 unfold Ko;rw [asi];constructor
 · rintro(h | h)
   · cases h
   · obtain⟨p,h1,rfl⟩:=List.mem_map.1 h;exact⟨p.2,h1⟩
 · rintro⟨k,h⟩;exact .inr (List.mem_map.2 ⟨_,h,rfl⟩)
theorem Ej {u}(U:gJ u){y:Nat}{i:ah}(hi:u.ab[y]? =some i){p:Int×Int}(h:p∈jG u y i):0≤p.1∧p.1<u.ab.length:=by
 have hy:=(List.getElem?_eq_some_iff.1 hi).1;unfold jG at h;rcases List.mem_append.1 h with h | h
 · rcases List.mem_append.1 h with h | h
   · split at h
     · have:=List.mem_singleton.1 h;subst this;have:= ‹rE i.aJ=false∧y+1<u.ab.length›.2;exact⟨by show 0≤(y:Int)+1;omega,by show(y:Int)+1<_;omega⟩
     · cases h
   · obtain⟨x,h1,rfl⟩:=List.mem_map.1 h;exact U.jmp hi (by simpa using h1)
 · split at h
   · obtain⟨d,h1,rfl⟩:=List.mem_map.1 h;have h2:ix u.aI (pE u.aI y)=some d:=by simpa using h1
     obtain⟨k,_,_,h3⟩:=Bf h2;have:=U.BR h3;exact⟨this.2.2.2.1,this.2.2.2.2⟩
   · cases h
theorem aH9 {u}(U:gJ u){y:Nat}{i:ah}(hi:u.ab[y]? =some i){x:Int}(h:x∈Ko u y i):0≤x∧x<u.ab.length:=by
 obtain⟨k,h⟩:=En.1 h;exact Ej U hi h
inductive eV (u:ae):Nat→Prop where
 | zero:eV u 0
 | step {a b:Nat}{i:ah}(h:eV u a) (hi:u.ab[a]? =some i) (hb:(b:Int)∈Ko u a i):eV u b
def fh (u:ae):List Bool:=(List.range u.ab.length).map fun i=>decide (eV u i)
structure Fin (u:ae) (v:List Bool):Prop where
 len:v.length=u.ab.length
 sound:∀i,v[i]? =some true→eV u i
 zero:v[0]? =some true
 closed:∀(a b:Nat) i,v[a]? =some true→u.ab[a]? =some i→(b:Int)∈Ko u a i→v[b]? =some true
theorem Fin.eq {u v}(H:Fin u v):v=fh u:=by
 have hr:∀i,eV u i→v[i]? =some true:=by
  intro i h
  induction h with
  | zero=>exact H.zero
  | step h hi hb ih=>exact H.closed _ _ _ ih hi hb
 refine List.ext_getElem? fun i=>?_;unfold fh;rw [zaJ]
 by_cases hi:i<u.ab.length
 · have vH:i<v.length:=by rw [H.len];exact hi
   rw [zbf hi,zab vH];show some _=some _
   congr 1
   have e:v[i]? =some v[i]:=zab vH;cases hv:v[i]with
   | true=>exact(zac (H.sound i (by rw [e,hv]))).symm
   | false=>exact(zag fun h=>by have:=hr i h;rw [e,hv]at this;cases this).symm
 · rw [zba (by rw [H.len];omega),zba (by simp;omega)];rfl
def sS (v:List Bool):Nat:=v.count false
theorem ahn:∀ {v k},v[k]? =some false→sS (v.set k true)+1=sS v
 | [],k,h=>by simp at h
 | b::v,0,h=>by
  have:b=false:=by simpa using h
  subst this;simp [sS]
 | b::v,k+1,h=>by
  have:=ahn (v:=v) (k:=k) (by simpa using h);unfold sS at this ⊢;rw [List.set_cons_succ,List.count_cons,List.count_cons];omega
theorem fR {v:List Bool}{k j:Nat}(hk:k<v.length):(v.set k true)[j]? =some true↔v[j]? =some true∨j=k:=by
 rw [zaX]
 by_cases e:k=j
 · subst e;simp [hk]
 · rw [if_neg e];exact⟨.inl,fun h=>h.resolve_right fun e'=>e e'.symm⟩
theorem asj {v:List Bool}{k:Nat}(hk:k<v.length)(h:v[k]? ≠some true):v[k]? =some false:=by
 rw [zab hk]at h ⊢;cases hv:v[k]with
 | true=>rw [hv]at h;exact absurd rfl h
 | false=>rfl
def mark (s:List Bool×ZZD) (x:Int):List Bool×ZZD:=if s.1[x.toNat]? =some true then s else(s.1.set x.toNat true,s.2++[x])
structure MF (n:Nat) (v0:List Bool) (o0 xs:ZZD) (s:List Bool×ZZD):Prop where
 len:s.1.length=n
 iff:∀j:Nat,s.1[j]? =some true↔v0[j]? =some true∨(j:Int)∈xs
 sub:∀z∈o0,z∈s.2
 op:∀z∈s.2,z∈o0∨z∈xs
 new:∀j:Nat,s.1[j]? =some true→v0[j]? =some true∨(j:Int)∈s.2
 l4:s.2.length+sS s.1=o0.length+sS v0
theorem asl {n : Nat}{v0 : List Bool}{o0 : ZZD} : ∀ (xs done : ZZD) (s : List Bool × ZZD), MF n v0 o0 done s → (∀ x ∈ xs, 0 ≤ x ∧ x < n) → MF n v0 o0 (done ++ xs) (xs.foldl mark s)
  | [], done, s, H, _ => by rw [zaS]; exact H
  | x :: xs, done, s, H, hx => by
    have hx0 := hx x zai
    obtain ⟨k, rfl⟩ := zaY hx0.1
    have hk : k < s.1.length := by rw [H.len]; omega
    have H2 : MF n v0 o0 (done ++ [(k : Int)]) (mark s (k : Int)) := by
      unfold mark
      rw [zau]
      by_cases h : s.1[k]? = some true
      · rw [if_pos h]
        refine ⟨H.len, fun j => ?_, H.sub, fun z hz => ?_, H.new, H.l4⟩
        · rw [H.iff j, zaT]
          constructor
          · rintro (h | h) <;> simp [h]
          · rintro (h' | h' | h')
            · exact .inl h'
            · exact .inr h'
            · have : (j : Int) = (k : Int) := by simpa using h'
              have : j = k := by omega
              subst this; exact (H.iff j).1 h
        · rcases H.op z hz with h | h
          · exact .inl h
          · exact .inr (zaO _ h)
      · rw [if_neg h]
        refine ⟨by simpa using H.len, fun j => ?_, fun z hz => zaO _ (H.sub z hz), fun z hz => ?_, fun j hj => ?_, ?_⟩
        · show (s.1.set k true)[j]? = some true ↔ _
          rw [fR hk, H.iff j, zaT]
          constructor
          · rintro ((h | h) | h)
            · exact .inl h
            · exact .inr (.inl h)
            · subst h; exact .inr (.inr (by simp))
          · rintro (h | h | h)
            · exact .inl (.inl h)
            · exact .inl (.inr h)
            · exact .inr (by have : (j : Int) = (k : Int) := by simpa using h
                             omega)
        · rcases List.mem_append.1 hz with hz | hz
          · rcases H.op z hz with h | h
            · exact .inl h
            · exact .inr (zaO _ h)
          · exact .inr (zbq _ hz)
        · rcases (fR hk).1 hj with h | h
          · rcases H.new j h with h | h
            · exact .inl h
            · exact .inr (zaO _ h)
          · subst h; exact .inr (zbq _ (by simp))
        · have := ahn (asj hk h)
          have := H.l4
          show (s.2 ++ [(k : Int)]).length + sS (s.1.set k true) = _
          rw [zaG]
          simp
          omega
    have := asl xs (done ++ [(k : Int)]) (mark s k) H2 fun y hy => hx y (zaj _ hy)
    rwa [List.append_assoc] at this
theorem ahk {α σ}(b:σ→α→Option (σ×Fl))(f:σ→α→σ)(l0:List α)(P:Nat→σ→Prop)(h:∀n s x,x∈l0→P (n+1) s→b s x=some (f s x,.go)∧P n (f s x)):∀(l:List α) (s:σ),(∀x∈l,x∈l0)→P l.length s→rq b l s=some (l.foldl f s,.go)
 | [],s,_,_=>rfl
 | x::l,s,hm,hp=>by
  obtain⟨h1,h2⟩:=h l.length s x (hm x zai) hp;unfold rq;rw [h1];exact ahk b f l0 P h l (f s x) (fun y hy=>hm y (zaj _ hy)) h2
structure Wk (u:ae) (op:ZZD) (v:List Bool):Prop where
 len:v.length=u.ab.length
 sound:∀i,v[i]? =some true→eV u i
 zero:v[0]? =some true
 ops:∀z∈op,0≤z∧z<u.ab.length∧v[z.toNat]? =some true
 closed:∀(a b:Nat) i,v[a]? =some true→(a:Int)∉op→u.ab[a]? =some i→(b:Int)∈Ko u a i→v[b]? =some true
theorem aIa {u:ae}(U:gJ u)(N:Nat)(hN:1000≤N){p:ZZD}{c:Int}{v3 v:List Bool}(H:Wk u (p++[c]) v)(hlen:(p++[c]).length+sS v≤700)(K:ZZD→List Bool→List Bool→Option (List Bool)):
    ∃QK v',JH N (p++[c]) u (fun a0 a1 a2=>DH a0 a1 a2) v3 v K=K QK v3 v'∧Wk u QK v'∧QK.length+sS v'+1=(p++[c]).length+sS v:=by
  obtain⟨hc1,H8,hcv⟩:=H.ops c (by simp);obtain⟨y,rfl⟩:=zaY hc1;have hy:y<u.ab.length:=by omega
  have hi:u.ab[y]? =some u.ab[y]:=zab hy;rw [zau]at hcv;have hl3:=aH8 u y u.ab[y];have qm:(p++[(y:Int)]).length=p.length+1:=by simp
  generalize pK:(jG u y u.ab[y]).map (fun q:Int×Int=>q.1)=xs
  have asm:∀x∈xs,0≤x∧x<(u.ab.length:Nat):=fun x hx=>by
    subst pK;obtain⟨q,h1,rfl⟩:=List.mem_map.1 hx;exact Ej U hi h1
  have F:MF u.ab.length v p ([]++xs) (xs.foldl mark (v,p)):=asl xs [] (v,p) ⟨H.len,fun j=>by simp,fun z hz=>hz,fun z hz=>.inl hz,fun j hj=>.inl hj,rfl⟩ asm;rw [zaU]at F;refine⟨(xs.foldl mark (v,p)).2,(xs.foldl mark (v,p)).1,?_,⟨F.len,fun i hv=>?_,(F.iff 0).2 (.inl H.zero),fun z hz=>?_,fun a b i ha Xn im hb=>?_⟩,?_⟩
  · unfold JH;have e1:bN .i64 (((p++[(y:Int)]).length:Int)-1)=(p.length:Int):=by rw [jv (by omega) (by omega),qm];omega
    have e2:ix (p++[(y:Int)]) (p.length:Int)=some (y:Int):=by rw [gG];simp
    have e3:vm (p++[(y:Int)]) 0 (p.length:Int)=some p:=by
      unfold vm;rw [zac (show(0:Int)≤0 by omega),zac (show(0:Int)≤(p.length:Int) by omega),zac (show(p.length:Int)≤((p++[(y:Int)]).length:Int) by rw [qm];omega)];simp [gu]
    rw [e1,e2,zaf,e3,zaf,Xl U N hN y hy,zaf]
    rw [ahk _ (fun(s:List Bool×List Bool×ZZD) (x:Int×Int)=>(s.1,mark s.2 x.1)) (jG u y u.ab[y]) (fun n s=>s.2.1.length=u.ab.length∧s.2.2.length+n≤1000) (fun n s x hx hs=>by
      obtain⟨h1,h2⟩:=Ej U hi hx;obtain⟨k,hk⟩:=zaY h1;rw [hk]at h2;have Fa:k<s.2.1.length:=by rw [hs.1];omega
      unfold OV DH Wb mark;rw [hk];simp only [zaf,zas,zak,gG,zau]
      by_cases hv:s.2.1[k]? =some true
      · rw [hv,if_pos rfl];exact⟨rfl,hs.1,by omega⟩
      · have hf:=asj Fa hv;rw [if_neg hv,hf];simp only [zaf,zaZ,zam];rw [zac (show s.2.2.length+[(k:Int)].length≤1048576 by simp;omega)];exact⟨rfl,by simpa using hs.1,by show(s.2.2++[(k:Int)]).length+n≤1000;rw [zaG];simp;omega⟩) _ _ (fun x hx=>hx) ⟨H.len,by show p.length+_≤1000;omega⟩]
    have e4:∀(l:List (Int×Int)) (s:List Bool×List Bool×ZZD),l.foldl (fun(s:List Bool×List Bool×ZZD) (x:Int×Int)=>(s.1,mark s.2 x.1)) s=(s.1,(l.map fun q:Int×Int=>q.1).foldl mark s.2):=by
      intro l
      induction l with
      | nil=>intro s;rfl
      | cons x l ih=>intro s;rw [List.foldl_cons,ih];rfl
    rw [e4,pK];rfl
  · rcases(F.iff i).1 hv with h | h
    · exact H.sound i h
    · exact .step (H.sound y hcv) hi (En.2 (by
        subst pK;obtain⟨q,h1,h2⟩:=List.mem_map.1 h;exact⟨q.2,by rw [←h2];exact h1⟩))
  · rcases F.op z hz with h | h
    · obtain⟨h1,h2,h3⟩:=H.ops z (zaO _ h);exact⟨h1,h2,(F.iff _).2 (.inl h3)⟩
    · have h1:=asm z h;exact⟨h1.1,h1.2,(F.iff _).2 (.inr (by rw [zbw h1.1];exact h))⟩
  · rcases F.new a ha with h | h
    · by_cases hap:(a:Int)∈p++[(y:Int)]
      · rcases List.mem_append.1 hap with h' | h'
        · exact absurd (F.sub _ h') Xn
        · have:(a:Int)=(y:Int):=by simpa using h'
          have:a=y:=by omega
          subst this;rw [hi]at im;cases im;refine(F.iff b).2 (.inr ?_);obtain⟨k,hk⟩:=En.1 hb;subst pK;exact List.mem_map.2 ⟨_,hk,rfl⟩
      · exact(F.iff b).2 (.inl (H.closed a b i h hap im hb))
    · exact absurd h Xn
  · have:=F.l4;rw [qm];show(xs.foldl mark (v,p)).2.length+sS (xs.foldl mark (v,p)).1+1=_;omega
theorem asn {u}(U:gJ u)(N:Nat)(hN:1000≤N):∀(n:Nat) (op:ZZD) (v3 v:List Bool),Wk u op v→op.length+sS v<n→op.length+sS v≤700→JI N u (fun a0 a1 a2=>DH a0 a1 a2) n op v3 v=some (fh u)
 | 0,op,v3,v,H,h,_=>by omega
 | n+1,op,v3,v,H,h,h7=>by
  show OW N op u _ v3 v _=_;unfold OW Wc;rcases List.eq_nil_or_concat op with rfl | ⟨p,c,rfl⟩
  · show some v=_;rw [Fin.eq ⟨H.len,H.sound,H.zero,fun a b i ha im hb=>H.closed a b i ha (by simp) im hb⟩]
  · rw [List.concat_eq_append]at H h h7 ⊢;have e:(p++[c]).length=p.length+1:=by simp
    rw [zac (show 0<((p++[c]).length:Int) by omega)];obtain⟨QK,v',h1,h2,h3⟩:=aIa U N hN H (v3:=v3) h7 (fun di j0 pX=>JI N u (fun a0 a1 a2=>DH a0 a1 a2) n di j0 pX);show JH N _ u _ v3 v _=_;rw [h1];exact asn U N hN n QK v3 v' h2 (by omega) (by omega)
theorem aIb (n:Nat) (hn:1≤n) (i:Nat):((List.replicate n false).set 0 true)[i]? =some true↔i=0:=by
 rw [fR (by rw [List.length_replicate];omega)];constructor
 · rintro(h | h)
   · rw [List.getElem?_replicate]at h;split at h<;>cases h
   · exact h
 · exact .inr
theorem aIc (n:Nat)(hn:1≤n):sS ((List.replicate n false).set 0 true)+1=n:=by
 rw [ahn (by rw [zaF,if_pos (by omega)])];simp [sS]
def Kp (u:ae):List Bool:=bif vw u then fh u else []
theorem aso (N:Nat)(hN:1000≤N)(u:ae):FX N u=some (Kp u):=by
 unfold FX Kp;rw [Xi N hN,zaf];cases hp:vw u with
 | false=>rfl
 | true=>
  have U:gJ u:=⟨hp⟩;have hn:=U.n1;show((OX N u _).bind _)=_;unfold OX;rw [zac (show(0:Int)≤(u.ab.length:Int) by omega),zac (show(u.ab.length:Int)≤65536 by omega)]
  have e0:ix (List.replicate (u.ab.length:Int).toNat false) 0=some false:=by
   show(List.replicate (u.ab.length:Int).toNat false)[0]? =_;rw [zau,zaF,if_pos (by omega)]
  show((ix (List.replicate (u.ab.length:Int).toNat false) 0).bind _).bind _=_;rw [e0,zaf,zau];have hu:=aIc u.ab.length hn.1;have g:=aIb u.ab.length hn.1;rw [show((0:Int).toNat)=0 from rfl]
  rw [asn U N hN N [0] [] _ ⟨by simp,fun i hi=>by rw [(g i).1 hi];exact .zero,(g 0).2 rfl,fun z hz=>by
   obtain rfl:=List.mem_singleton.1 hz;exact⟨by omega,by omega,(g 0).2 rfl⟩,fun a b i ha Xn _ _=>by
   have:=(g a).1 ha;subst this;exact absurd (by simp) Xn⟩ (by show 1+_<N;omega) (by show 1+_≤700;omega)]
  rfl
theorem Xj {u y i x k}:(x,k)∈jG u y i↔(rE i.aJ=false∧y+1<u.ab.length∧x=(y:Int)+1∧k=0)∨(jy i=some x∧k=1)∨(rF i=true∧0≤pE u.aI y∧∃d,ix u.aI (pE u.aI y)=some d∧d.bG=x∧k=2):=by
 unfold jG;rw [zaT,zaT,or_assoc];refine or_congr ?_ (or_congr ?_ ?_)
 · split
   · rw [zbj,Prod.mk.injEq];have h:= ‹rE i.aJ=false∧y+1<u.ab.length›;exact⟨fun e=>⟨h.1,h.2,e⟩,fun e=>e.2.2⟩
   · next hc=>exact⟨fun h=>(by cases h),fun h=>absurd ⟨h.1,h.2.1⟩ hc⟩
 · rw [zaM];constructor
   · rintro⟨z,h,e⟩;obtain⟨rfl,rfl⟩:=Prod.mk.inj e;exact⟨by simpa using h,rfl⟩
   · rintro⟨h,rfl⟩;exact⟨x,by simpa using h,rfl⟩
 · split
   · rw [zaM];have h:= ‹rF i=true∧0≤pE u.aI y›;constructor
     · rintro⟨d,h1,e⟩;obtain⟨h2,h3⟩:=Prod.mk.inj e;exact⟨h.1,h.2,d,by simpa using h1,h2,h3.symm⟩
     · rintro⟨_,_,d,h1,rfl,rfl⟩;exact⟨d,by simpa using h1,rfl⟩
   · next hc=>exact⟨fun h=>(by cases h),fun h=>absurd ⟨h.1,h.2.1⟩ hc⟩
def Ki (op zN:Int):Int:=if op=30∧zN=0 then 1 else if op=31∧zN=0∨op=32∧zN=1 then-1 else 0
theorem aHF (i:ah)(zN:Int):OE i zN=some (Ki i.aJ zN):=by
 unfold OE OD OC Jy V1 Ki
 by_cases h30:i.aJ=30<;>by_cases h31:i.aJ=31<;>by_cases h32:i.aJ=32<;>by_cases k0:zN=0<;>by_cases k1:zN=1<;>simp [h30,h31,h32,k0,k1]<;>omega
def BN (op d k:Int):Int:=if k=2 then 0 else d+Ki op k
inductive lL (u:ae):Nat→Int→Prop where
 | start:lL u 0 0
 | step (y:Nat) (d:Int) (i:ah) (x:Int×Int) (H:lL u y d) (hi:u.ab[y]? =some i) (hx:x∈jG u y i):lL u x.1.toNat (BN i.aJ d x.2)
def Good (u:ae):Prop:=∀y d,lL u y d→(0≤d∧d≤40)∧∀d',lL u y d'→d=d'
theorem aHG (op k:Int): -1≤Ki op k∧Ki op k≤1:=by
 unfold Ki;split
 · omega
 · split<;>omega
structure DI (u:ae) (out q:ZZD):Prop where
 len:out.length=u.ab.length
 QH:∀(y:Nat) d,out[y]? =some d→d= -1∨(0≤d∧d≤40∧lL u y d)
 que:∀x∈q,∃(y:Nat) (d:Int),x=(y:Int)∧out[y]? =some d∧0≤d
def Kj (u:ae) (out:ZZD) (y:Nat):Prop:=∀d i,out[y]? =some d→u.ab[y]? =some i→∀x∈jG u y i,out[x.1.toNat]? =some (BN i.aJ d x.2)∧0≤BN i.aJ d x.2
def Ext (out qa:ZZD):Prop:=∀(y:Nat) d,out[y]? =some d→0≤d→qa[y]? =some d
theorem Ext.refl (o:ZZD):Ext o o:=fun _ _ h _=>h
theorem Ext.trans {a b c}(h1:Ext a b)(h2:Ext b c):Ext a c:=fun y d h h0=>h2 y d (h1 y d h h0) h0
def open_ (o:ZZD):Nat:=o.countP (fun d=>decide (d<0))
theorem aHH {o b d v}(h:o[b]? =some d)(hd:d<0)(hv:0≤v):open_ (o.set b v)+1=open_ o:=by
 unfold open_;have hb:=(List.getElem?_eq_some_iff.1 h);obtain⟨Tg,qn⟩:=hb;have uW:0<o.countP (fun d=>decide (d<0)):=List.countP_pos_iff.2 ⟨d,zat h,zac hd⟩;rw [List.countP_set Tg,qn,zac hd];have:decide (v<0)=false:=zag (by omega);simp [this];omega
theorem ahf {u}(N:Nat)(hl:u.ab.length≤600)(y0:Nat)(i0:ah)(d0:Int)(tV:u.ab[y0]? =some i0)(Xk:d0≤40):∀(l:List (Int×Int)) (out q:ZZD),(∀x∈l,x∈jG u y0 i0)→(∀x∈l,0≤x.1∧x.1<(u.ab.length:Int))→DI u out q→out[y0]? =some d0→0≤d0→lL u y0 d0→q.length+open_ out≤700→
 (∃qa q',rq (fun(s:ZZD×ZZD×Bool×ZZD) (x:Int×Int)=>xD N s.1 (y0:Int) u s.2.1 s.2.2.1 s.2.2.2 x.1 x.2 (fun f m0 m1 m2 m3=>some ((m0,m1,m2,m3),f))) l (out,[],false,q)=some ((qa,[],false,q'),.go)∧DI u qa q'∧Ext out qa∧(∀x∈l,qa[x.1.toNat]? =some (BN i0.aJ d0 x.2)∧0≤BN i0.aJ d0 x.2)∧(∃e,q'=q++e)∧q'.length+open_ qa=q.length+open_ out∧(∀(y:Nat) d,qa[y]? =some d→0≤d→out[y]? =some d∨(y:Int)∈q'))∨
 (∃qa q',rq (fun(s:ZZD×ZZD×Bool×ZZD) (x:Int×Int)=>xD N s.1 (y0:Int) u s.2.1 s.2.2.1 s.2.2.2 x.1 x.2 (fun f m0 m1 m2 m3=>some ((m0,m1,m2,m3),f))) l (out,[],false,q)=some ((qa,[],false,q'),.ret)∧¬Good u)
 | [],out,q,_,_,I,_,_,_,_=>.inl ⟨out,q,rfl,I,Ext.refl _,fun x h=>(by cases h),⟨[],(zaS _).symm⟩,rfl,fun y d h _=>.inl h⟩
 | x::l,out,q,aM,sR,I,ho,q9,hD,hm=>by
  have hx:=aM x zai;obtain⟨hx1,Mj⟩:=sR x zai;have arR:∀z∈l,z∈jG u y0 i0:=fun z hz=>aM z (zaj _ hz)
  have arS:∀z∈l,0≤z.1∧z.1<(u.ab.length:Int):=fun z hz=>sR z (zaj _ hz)
  have iM:=aHG i0.aJ x.2;have QI:lL u x.1.toNat (BN i0.aJ d0 x.2):=lL.step y0 d0 i0 x hD tV hx;obtain⟨b,hb⟩:=zaY hx1;have yI:b<u.ab.length:=by omega
  have hbt:x.1.toNat=b:=by omega
  have hxb:x.1=(b:Int):=hb
  have body:∀gH:Fl→ZZD→ZZD→Bool→ZZD→Option ((ZZD×ZZD×Bool×ZZD)×Fl),xD N out (y0:Int) u [] false q x.1 x.2 gH=JB N out x.1 [] false q (BN i0.aJ d0 x.2) (y0:Int) u gH:=fun gH=>by
   unfold xD;rw [gG,ho,zaf,gG,tV,zaf,aHF,zaf,jv (by omega) (by omega)];unfold BN
   by_cases h2:x.2=2
   · rw [zac h2,if_pos h2];rfl
   · rw [zag h2,if_neg h2];rfl
  have Cz:b<out.length:=by rw [I.len];exact yI
  obtain⟨db,Ei⟩:∃db,out[b]? =some db:=⟨_,zab Cz⟩;unfold rq;show(∃qa q',((xD N out (y0:Int) u [] false q x.1 x.2 (fun f m0 m1 m2 m3=>some ((m0,m1,m2,m3),f))).bind _)=_∧_)∨(∃qa q',((xD N out (y0:Int) u [] false q x.1 x.2 (fun f m0 m1 m2 m3=>some ((m0,m1,m2,m3),f))).bind _)=_∧_);rw [body];unfold JB OO;rw [rD,zaf,hxb];generalize hv:BN i0.aJ d0 x.2=v at QI;rw [hbt]at QI
  by_cases hr:0≤v∧v≤40
  · rw [zac hr,gG,Ei]
    by_cases Ib:0≤db
    · by_cases eM:db=v
      · -- told aL7, alike
        have ih:=ahf N hl y0 i0 d0 tV Xk l out q arR arS I ho q9 hD hm
        have e:(bif !true then(some (((out,([]:ZZD),false,q):ZZD×ZZD×Bool×ZZD),Fl.ret))else(some db).bind fun zz=>bif decide (0≤zz)then(some db).bind fun JC=>bif !decide (JC=v)then some ((out,[],false,q),Fl.ret)else(some db).bind fun tR=>bif decide (tR<0)then(some db).bind fun zi=>gu (decide (q.length+[((b:Nat):Int)].length≤1048576)) (some ((out.set ((b:Nat):Int).toNat v,[],false,q++[((b:Nat):Int)]),Fl.go))else some ((out,[],false,q),Fl.go)else(some db).bind fun tR=>bif decide (tR<0)then(some db).bind fun zi=>gu (decide (q.length+[((b:Nat):Int)].length≤1048576)) (some ((out.set ((b:Nat):Int).toNat v,[],false,q++[((b:Nat):Int)]),Fl.go))else some ((out,[],false,q),Fl.go))=some ((out,[],false,q),Fl.go):=by
         have cy:¬db<0:=by omega
         simp [Ib,eM,cy];subst eM;simp [Ib,cy]
        rw [e];rcases ih with⟨o',q',h1,h2,h3,h4,h5,h6,h7⟩ | ⟨o',q',h1,h2⟩
        · refine .inl ⟨o',q',h1,h2,h3,fun z hz=>?_,h5,h6,h7⟩;rcases List.mem_cons.1 hz with rfl | hz
          · rw [hbt,hv];exact⟨h3 b v (eM▸Ei) hr.1,hr.1⟩
          · exact h4 z hz
        · exact .inr ⟨o',q',h1,h2⟩
      · refine .inr ⟨out,q,?_,fun G=>?_⟩
        · simp [Ib,eM]
        · rcases I.QH b db Ei with e | ⟨_,_,hDb⟩
          · omega
          · exact eM ((G b db hDb).2 v QI)
    · -- told ayW
      have cy:db<0:=by omega
      have hq:q.length+1≤1048576:=by omega
      have I':DI u (out.set b v) (q++[(b:Int)]):=by
       refine⟨by simpa using I.len,fun y d h=>?_,fun z hz=>?_⟩
       · rw [zaX]at h
         by_cases e:b=y
         · subst e;rw [if_pos rfl,if_pos Cz]at h;cases h;exact .inr ⟨hr.1,hr.2,QI⟩
         · rw [if_neg e]at h;exact I.QH y d h
       · rcases List.mem_append.1 hz with hz | hz
         · obtain⟨y,d,h1,h2,h3⟩:=I.que z hz;refine⟨y,d,h1,?_,h3⟩;rw [zaX,if_neg]
           · exact h2
           · intro e;subst e;rw [Ei]at h2;cases h2;omega
         · rw [zbj]at hz;exact⟨b,v,hz,by rw [zaX,if_pos rfl,if_pos Cz],hr.1⟩
      have aHI:b≠y0:=fun e=>by subst e;rw [ho]at Ei;cases Ei;omega
      have ho':(out.set b v)[y0]? =some d0:=by rw [zaX,if_neg aHI];exact ho
      have hos:=aHH Ei cy hr.1;have ih:=ahf N hl y0 i0 d0 tV Xk l (out.set b v) (q++[(b:Int)]) arR arS I' ho' q9 hD (by rw [zaG];simp;omega)
      have aHJ:Ext out (out.set b v):=fun y d h h0=>by
       rw [zaX,if_neg]
       · exact h
       · intro e;subst e;rw [Ei]at h;cases h;omega
      have hgu:decide (q.length+1≤1048576)=true:=zac hq
      have e:(bif !true then(some (((out,([]:ZZD),false,q):ZZD×ZZD×Bool×ZZD),Fl.ret))else(some db).bind fun zz=>bif decide (0≤zz)then(some db).bind fun JC=>bif !decide (JC=v)then some ((out,[],false,q),Fl.ret)else(some db).bind fun tR=>bif decide (tR<0)then(some db).bind fun zi=>gu (decide (q.length+[((b:Nat):Int)].length≤1048576)) (some ((out.set ((b:Nat):Int).toNat v,[],false,q++[((b:Nat):Int)]),Fl.go))else some ((out,[],false,q),Fl.go)else(some db).bind fun tR=>bif decide (tR<0)then(some db).bind fun zi=>gu (decide (q.length+[((b:Nat):Int)].length≤1048576)) (some ((out.set ((b:Nat):Int).toNat v,[],false,q++[((b:Nat):Int)]),Fl.go))else some ((out,[],false,q),Fl.go))=some ((out.set b v,[],false,q++[(b:Int)]),Fl.go):=by
       simp [Ib,cy,gu,hq]
      rw [e];rcases ih with⟨o',q',h1,h2,h3,h4,⟨e',h5⟩,h6,h7⟩ | ⟨o',q',h1,h2⟩
      · refine .inl ⟨o',q',h1,h2,aHJ.trans h3,fun z hz=>?_,⟨(b:Int)::e',by rw [h5,List.append_assoc];rfl⟩,?_,fun y d h h0=>?_⟩
        · rcases List.mem_cons.1 hz with rfl | hz
          · rw [hbt,hv];exact⟨h3 b v (by rw [zaX,if_pos rfl,if_pos Cz]) hr.1,hr.1⟩
          · exact h4 z hz
        · rw [h6,zaG];simp;omega
        · rcases h7 y d h h0 with h8 | h8
          · by_cases e:b=y
            · subst e;exact .inr (by rw [h5];simp)
            · rw [zaX,if_neg e]at h8;exact .inl h8
          · exact .inr h8
      · exact .inr ⟨o',q',h1,h2⟩
  · rw [zag hr];exact .inr ⟨out,q,rfl,fun G=>hr (G b v QI).1⟩
theorem arT {u}(U:gJ u)(N:Nat)(hN:1000≤N):∀(n:Nat) (out q:ZZD),DI u out q→(∀(y:Nat) d,out[y]? =some d→0≤d→(y:Int)∈q∨Kj u out y)→out[0]? =some 0→q.length+open_ out≤700→q.length+open_ out<n→
    (∃qa,Bq N u n out [] false q=some (qa,true)∧DI u qa []∧(∀(y:Nat) d,qa[y]? =some d→0≤d→Kj u qa y)∧qa[0]? =some 0)∨(Bq N u n out [] false q=some ([],false)∧¬Good u)
  | 0,out,q,_,_,_,_,h=>by omega
  | n+1,out,[],I,C,h0,h1,h2=>.inl ⟨out,rfl,I,fun y d h hd=>(C y d h hd).elim (fun h=>by cases h) id,h0⟩
  | n+1,out,x::t,I,C,h0,h1,h2=>by
    obtain⟨y0,d0,rfl,ho,q9⟩:=I.que x zai;have hy0:y0<u.ab.length:=by rw [←I.len];exact(List.getElem?_eq_some_iff.1 ho).1
    obtain⟨Xk,hD⟩:d0≤40∧lL u y0 d0:=by
      rcases I.QH y0 d0 ho with e | ⟨_,h4,h5⟩
      · omega
      · exact⟨h4,h5⟩
    have tV:u.ab[y0]? =some u.ab[y0]:=zab hy0;have F:=ahf N U.n1.2.1 y0 u.ab[y0] d0 tV Xk (jG u y0 u.ab[y0]) out ((y0:Int)::t) (fun _ h=>h) (fun x hx=>Ej U tV hx) I ho q9 hD h1
    have unf:Bq N u (n+1) out [] false ((y0:Int)::t)=((rq (fun(s:ZZD×ZZD×Bool×ZZD) (x:Int×Int)=>xD N s.1 (y0:Int) u s.2.1 s.2.2.1 s.2.2.2 x.1 x.2 (fun f m0 m1 m2 m3=>some ((m0,m1,m2,m3),f))) (jG u y0 u.ab[y0]) (out,[],false,(y0:Int)::t)).bind fun qH=>Ge qH.2 (OQ N qH.1.2.2.2 u qH.1.1 qH.1.2.1 qH.1.2.2.1 (fun ar bY ey j0=>Bq N u n bY ey j0 ar)) (some (qH.1.2.1,qH.1.2.2.1)) (fun _=>none)):=by
      show(bif decide (0<((((y0:Int)::t).length:Nat):Int))then OS N ((y0:Int)::t) u out [] false _ else _)=_;rw [zac (by rw [zaE];omega),zam];unfold OS;rw [show ix ((y0:Int)::t) 0=some (y0:Int)from rfl,zaf,Xl U N hN y0 hy0];rfl
    rw [unf];rcases F with⟨o',q',f1,f2,f3,f4,⟨e,f5⟩,f6,f7⟩ | ⟨o',q',f1,f2⟩
    · rw [f1];simp only [zaf,Ge];unfold OQ
      have es:vm q' 1 (q'.length:Int)=some (t++e):=by
        unfold vm;rw [f5,za2]
        have:(decide ((0:Int)≤1)&&decide ((1:Int)≤((((y0:Int)::(t++e)).length:Nat):Int))&&decide (((((y0:Int)::(t++e)).length:Nat):Int)≤((((y0:Int)::(t++e)).length:Nat):Int)))=true:=by
          rw [zaE];simp;omega
        rw [this];show some ((((y0:Int)::(t++e)).take (((((y0:Int)::(t++e)).length:Nat):Int)).toNat).drop 1)=_;rw [zau,List.take_length];rfl
      rw [es,zaf]
      have aHK:Kj u o' y0:=fun d i h hi z hz=>by
        have:o'[y0]? =some d0:=f3 y0 d0 ho q9;rw [this]at h;cases h;rw [tV]at hi;cases hi;exact f4 z hz
      refine arT U N hN n o' (t++e) ⟨f2.len,f2.QH,fun z hz=>f2.que z (by rw [f5];exact zaj _ hz)⟩ (fun y d h hd=>?_) (f3 0 0 h0 (zbs 0)) ?_ ?_
      · have key:(y:Int)∈q'→(y:Int)∈t++e∨Kj u o' y:=fun hq=>by
          rw [f5,za2]at hq;rcases List.mem_cons.1 hq with e1 | hq
          · have:y=y0:=by omega
            subst this;exact .inr aHK
          · exact .inl hq
        rcases f7 y d h hd with h8 | h8
        · rcases C y d h8 hd with h9 | h9
          · exact key (by rw [f5];exact zaO _ h9)
          · refine .inr fun d' i' h' fx z hz=>?_;rw [h]at h';cases h';obtain⟨g1,g2⟩:=h9 d i' h8 fx z hz;exact⟨f3 _ _ g1 g2,g2⟩
        · exact key h8
      · have:q'.length=(t++e).length+1:=by rw [f5];rfl
        rw [zaE]at f6 h1;omega
      · have:q'.length=(t++e).length+1:=by rw [f5];rfl
        rw [zaE]at f6 h2;omega
    · rw [f1];exact .inr ⟨rfl,f2⟩
def Kk (u:ae) (out:ZZD):Prop:=out.length=u.ab.length∧∀(y:Nat) d,out[y]? =some d→(d= -1∧∀d',¬lL u y d')∨(0≤d∧d≤40∧lL u y d)
theorem ahg {u out}(C:∀(y:Nat) d,out[y]? =some d→0≤d→Kj u out y)(h0:out[0]? =some 0){y:Nat}{d:Int}(H:lL u y d):out[y]? =some d∧0≤d:=by
 induction H with
 | start=>exact⟨h0,zbs 0⟩
 | step y d i x H hi hx ih=>exact C y d ih.1 ih.2 d i ih.1 hi x hx
theorem aHL {u out}(len:out.length=u.ab.length)(V:∀(y:Nat) d,out[y]? =some d→d= -1∨(0≤d∧d≤40∧lL u y d))(C:∀(y:Nat) d,out[y]? =some d→0≤d→Kj u out y)(h0:out[0]? =some 0):Kk u out∧Good u:=by
 refine⟨⟨len,fun y d h=>?_⟩,fun y d H=>?_⟩
 · rcases V y d h with e | h2
   · refine .inl ⟨e,fun d' H=>?_⟩;have:=ahg C h0 H;rw [h]at this;have h3:=this.1;cases h3;omega
   · exact .inr h2
 · have hd:=ahg C h0 H;refine⟨?_,fun d' H'=>?_⟩
   · rcases V y d hd.1 with e | h2
     · have:=hd.2;omega
     · exact⟨h2.1,h2.2.1⟩
   · have:=ahg C h0 H';rw [hd.1]at this;have h3:=this.1;cases h3;rfl
theorem arU {u}(U:gJ u)(N:Nat)(hN:1000≤N):
 (∃out,Ds N u=some (out,true)∧Kk u out∧Good u)∨(Ds N u=some ([],false)∧¬Good u):=by
 have hl:=U.n1.2.1;have h1:=U.n1.1
 have e:Ds N u=Bq N u N ((List.replicate u.ab.length (-1)).set 0 0) [] false [0]:=by
  unfold Ds V5;have:(decide (1≤(u.ab.length:Int))&&decide ((u.ab.length:Int)≤65536))=true:=by simp;omega
  rw [this];show(ix (List.replicate u.ab.length (-1)) ((0:Nat):Int)).bind _=_;rw [gG,zaF,if_pos (by omega)];rfl
 rw [e]
 have Iy:∀(y:Nat) d,((List.replicate u.ab.length (-1:Int)).set 0 0)[y]? =some d→(y=0∧d=0)∨d= -1:=fun y d h=>by
  rw [zaX]at h
  by_cases hy:0=y
  · subst hy;rw [if_pos rfl,za9,if_pos (by omega)]at h;cases h;exact .inl ⟨rfl,rfl⟩
  · rw [if_neg hy,zaF]at h;split at h
    · cases h;exact .inr rfl
    · cases h
 have TP:((List.replicate u.ab.length (-1:Int)).set 0 0)[0]? =some 0:=by
  rw [zaX,if_pos rfl,za9,if_pos (by omega)]
 have bK:open_ ((List.replicate u.ab.length (-1:Int)).set 0 0)≤u.ab.length:=by
  unfold open_;refine zay List.countP_le_length ?_;simp
 have L:=arT U N hN N ((List.replicate u.ab.length (-1)).set 0 0) [0] ⟨by simp,fun y d h=>by
  rcases Iy y d h with⟨rfl,rfl⟩ | e
  · exact .inr ⟨zbs 0,by omega,lL.start⟩
  · exact .inl e,fun x hx=>⟨0,0,by rw [zbj]at hx;exact hx,TP,zbs 0⟩⟩ (fun y d h hd=>by
  rcases Iy y d h with⟨rfl,rfl⟩ | e
  · exact .inl (by simp)
  · omega) TP (by show 1+_≤700;omega) (by show 1+_<N;omega)
 rcases L with⟨out,e1,I,C,h0⟩ | ⟨e1,nG⟩
 · obtain⟨D,G⟩:=aHL I.len I.QH C h0;exact .inl ⟨out,e1,D,G⟩
 · exact .inr ⟨e1,nG⟩
inductive uC (u:ae):Nat→Int→Prop where
 | read {y:Nat}{i:ah}{s:Int}(hi:u.ab[y]? =some i) (hs:s∈pF i):uC u y s
 | lead {y:Nat}{i:ah}{x:Int×Int}{s:Int}(hi:u.ab[y]? =some i) (hx:x∈jG u y i) (hw:x.2=2∨s≠BO i) (hs:uC u x.1.toNat s):uC u y s
theorem arV (i:ah):(pF i).length≤2:=by
 unfold pF;rw [zaG];have h1:(if 0<(ez i.aJ).dF.e0∧rG i (ez i.aJ).dF.e0≠-1 then [rG i (ez i.aJ).dF.e0]else []).length≤1:=by split<;>simp
 have h2:(if 0<(ez i.aJ).dF.e1∧rG i (ez i.aJ).dF.e1≠-1 then [rG i (ez i.aJ).dF.e1]else []).length≤1:=by split<;>simp
 omega
def univ (u:ae):ZZD:=u.ab.foldr (fun i s=>jU (pF i) s) []
theorem arW (x:Int):∀l:ZZD,(ow x l).length≤l.length+1
 | []=>by simp [ow]
 | y::l=>by
  unfold ow;cases decide (x<y)with
  | true=>simp
  | false=>cases decide (x=y)with
   | true=>simp
   | false=>have:=arW x l;simp;omega
theorem arX:∀(xs l:ZZD),(jU xs l).length≤l.length+xs.length
 | [],l=>by simp [jU]
 | x::xs,l=>by
  have h1:=arX xs (ow x l);have h2:=arW x l;show(jU xs (ow x l)).length≤_;simp;omega
theorem Kl:∀c:List ah,iQ (c.foldr (fun i s=>jU (pF i) s) [])∧(c.foldr (fun i s=>jU (pF i) s) []).length≤2*c.length∧∀i∈c,∀s∈pF i,s∈c.foldr (fun i s=>jU (pF i) s) []
 | []=>⟨.nil,zad _,fun i h=>by cases h⟩
 | i::c=>by
  obtain⟨h1,h2,h3⟩:=Kl c;refine⟨Ja h1,?_,fun j hj s hs=>I9.2 ?_⟩
  · have h4:=arX (pF i) (c.foldr (fun i s=>jU (pF i) s) []);have h5:=arV i;show(jU (pF i) _).length≤_;simp;omega
  · rcases List.mem_cons.1 hj with rfl | hj
    · exact .inl hs
    · exact .inr (h3 j hj s hs)
theorem uC.univ {u y s}(h:uC u y s):s∈univ u:=by
 induction h with
 | read hi hs=>exact(Kl u.ab).2.2 _ (zat hi) _ hs
 | lead hi hx hw hs ih=>exact ih
def Ek (u:ae) (y:Nat):ZZD:=(univ u).filter fun s=>decide (uC u y s)
theorem ahh {u y s}:s∈Ek u y↔uC u y s:=by
 unfold Ek;rw [zbp];exact⟨fun h=>zao h.2,fun h=>⟨h.univ,zac h⟩⟩
theorem ahi (u:ae)(y:Nat):iQ (Ek u y):=(Kl u.ab).1.filter _
theorem aHM (u:ae)(y:Nat):(Ek u y).length≤2*u.ab.length:=zay (List.length_filter_le _ _) (Kl u.ab).2.1
def rH (u:ae):List (ZZD):=(List.range u.ab.length).map (Ek u)
theorem ahj {u y}(h:y<u.ab.length):(rH u)[y]? =some (Ek u y):=by unfold rH;rw [zaJ,zbf h];rfl
theorem arY (u:ae):(rH u).length=u.ab.length:=by unfold rH;simp
theorem arZ {l m}(hl:iQ l)(hm:iQ m)(h:∀x∈l,x∈m):l.length≤m.length∧(l.length=m.length→l=m):=by
 have e:l=m.filter fun x=>decide (x∈l):=iQ.ext hl (hm.filter _) fun x=>by
  rw [zbp];exact⟨fun hx=>⟨h x hx,zac hx⟩,fun hx=>zao hx.2⟩
 have h1:=List.length_filter_le (fun x=>decide (x∈l)) m;rw [←e]at h1;refine⟨h1,fun hq=>iQ.ext hl hm fun x=>⟨h x,fun hx=>?_⟩⟩;rw [e]at hq;exact zao (List.length_filter_eq_length_iff.1 hq x hx)
def qb (u:ae) (a:List (ZZD)) (y:Nat) (i:ah):ZZD:=jU (pF i) ((jG u y i).foldl (fun s x=>jU (rC (BO i) x.2 (a.getD x.1.toNat [])) s) [])
theorem aHN {w k t s}:s∈rC w k t↔s∈t∧(k=2∨s≠w):=by
 unfold rC;rw [zbp]
 by_cases h1:k=2<;>by_cases h2:s=w<;>simp [h1,h2]
theorem ndF (w:Int)(a:List (ZZD)):∀(l:List (Int×Int)) (s:ZZD),iQ s→iQ (l.foldl (fun s x=>jU (rC w x.2 (a.getD x.1.toNat [])) s) s)∧∀z,z∈l.foldl (fun s x=>jU (rC w x.2 (a.getD x.1.toNat [])) s) s↔z∈s∨∃x∈l,z∈a.getD x.1.toNat []∧(x.2=2∨z≠w)
 | [],s,h=>⟨h,fun z=>by simp⟩
 | x::l,s,h=>by
  obtain⟨h1,h2⟩:=ndF w a l (jU (rC w x.2 (a.getD x.1.toNat [])) s) (Ja h);refine⟨h1,fun z=>?_⟩;rw [List.foldl_cons,h2,I9,aHN];constructor
  · rintro((h | h) | ⟨x',h,h'⟩)
    · exact .inr ⟨x,zai,h⟩
    · exact .inl h
    · exact .inr ⟨x',zaj _ h,h'⟩
  · rintro(h | ⟨x',h,h'⟩)
    · exact .inl (.inr h)
    · rcases List.mem_cons.1 h with rfl | h
      · exact .inl (.inl h')
      · exact .inr ⟨x',h,h'⟩
theorem ar0 (u:ae)(a:List (ZZD))(y:Nat)(i:ah):iQ (qb u a y i):=Ja (ndF _ _ _ _ .nil).1
theorem Km {u a y i s}:s∈qb u a y i↔s∈pF i∨∃x∈jG u y i,s∈a.getD x.1.toNat []∧(x.2=2∨s≠BO i):=by
 unfold qb;rw [I9,(ndF _ _ _ _ .nil).2];simp
def qc (a:List (ZZD)):Nat:=(a.map List.length).sum
theorem ar1:∀ {a y l},y<a.length→qc (a.set y l)+(a.getD y []).length=qc a+l.length
 | [],y,l,h=>by simp at h
 | b::a,0,l,h=>by simp [qc];omega
 | b::a,y+1,l,h=>by
  have:=ar1 (a:=a) (y:=y) (l:=l) (by simpa using h);simp [qc]at this ⊢;omega
theorem ar2 {m}:∀{a:List (ZZD)},(∀l∈a,l.length≤m)→qc a≤a.length*m
 | [],_=>by simp [qc]
 | b::a,h=>by
  have h1:=ar2 (a:=a) fun l hl=>h l (zaj _ hl)
  have h2:=h b zai;simp [qc]at h1 ⊢;rw [zaR];omega
theorem Fp (a:List (ZZD))(y z:Nat)(l:ZZD)(hy:y<a.length):(a.set y l).getD z []=if y=z then l else a.getD z []:=by
 rw [zaH,zaX,zaH]
 by_cases h:y=z
 · subst h;simp [hy]
 · simp [h]
structure LI (u:ae) (a:List (ZZD)):Prop where
 len:a.length=u.ab.length
 snd:∀y s,s∈a.getD y []→uC u y s
 grow:∀y i,u.ab[y]? =some i→∀s∈a.getD y [],s∈qb u a y i
theorem LI.nd {u a}(H:LI u a){y:Nat}{i:ah}(hi:u.ab[y]? =some i){s:Int}(hs:s∈qb u a y i):uC u y s:=by
 rcases Km.1 hs with h | ⟨x,h1,h2,h3⟩
 · exact .read hi h
 · exact .lead hi h1 h3 (H.snd _ _ h2)
theorem LI.set {u a}(H:LI u a){y:Nat}{i:ah}(hi:u.ab[y]? =some i){l:ZZD}(hl:∀s,s∈l↔s∈qb u a y i):LI u (a.set y l):=by
 have hy:y<a.length:=by rw [H.len];exact(List.getElem?_eq_some_iff.1 hi).1
 have mono:∀z s,s∈a.getD z []→s∈(a.set y l).getD z []:=fun z s hs=>by
  rw [Fp a y z l hy]
  by_cases h:y=z
  · subst h;rw [if_pos rfl,hl];exact H.grow _ _ hi s hs
  · rw [if_neg h];exact hs
 have up:∀z j s,s∈qb u a z j→s∈qb u (a.set y l) z j:=fun z j s hs=>by
  rcases Km.1 hs with h | ⟨x,h1,h2,h3⟩
  · exact Km.2 (.inl h)
  · exact Km.2 (.inr ⟨x,h1,mono _ _ h2,h3⟩)
 refine⟨by simpa using H.len,fun z s hs=>?_,fun z j hj s hs=>?_⟩
 · rw [Fp a y z l hy]at hs
   by_cases h:y=z
   · subst h;rw [if_pos rfl,hl]at hs;exact H.nd hi hs
   · rw [if_neg h]at hs;exact H.snd _ _ hs
 · rw [Fp a y z l hy]at hs
   by_cases h:y=z
   · subst h;rw [if_pos rfl,hl]at hs;rw [hi]at hj;cases hj;exact up _ _ _ hs
   · rw [if_neg h]at hs;exact up _ _ _ (H.grow _ _ hj s hs)
theorem LI.fin {u}(U:gJ u){a:List (ZZD)}(H:LI u a)(C:∀y i,u.ab[y]? =some i→∀s∈qb u a y i,s∈a.getD y []):∀y s,s∈a.getD y []↔uC u y s:=fun y s=>by
 refine⟨H.snd y s,fun h=>?_⟩
 induction h with
 | read hi hs=>exact C _ _ hi _ (Km.2 (.inl hs))
 | lead hi hx hw hs ih=>exact C _ _ hi _ (Km.2 (.inr ⟨_,hx,ih,hw⟩))
theorem LI.eq {u}(U:gJ u){a:List (ZZD)}(H:LI u a)(S:∀l∈a,iQ l)(C:∀y i,u.ab[y]? =some i→∀s∈qb u a y i,s∈a.getD y []):a=rH u:=by
 have F:=H.fin U C;refine List.ext_getElem? fun y=>?_
 by_cases hy:y<u.ab.length
 · have hya:y<a.length:=by rw [H.len];exact hy
   rw [ahj hy,zab hya];refine zan some (iQ.ext (S _ (zbl hya)) (ahi u y) fun s=>?_);rw [ahh,←F y s,zaH,zab hya];rfl
 · rw [zba (by rw [H.len];omega),zba (by rw [arY];omega)]
theorem LI.start (u:ae):LI u (List.replicate u.ab.length []):=by
 have h:∀y,(List.replicate u.ab.length ([]:ZZD)).getD y []=[]:=fun y=>by
  rw [zaH,zaF];split<;>rfl
 exact⟨by simp,fun y s hs=>(by rw [h]at hs;cases hs),fun y i _ s hs=>(by rw [h]at hs;cases hs)⟩
theorem ar3 {a:List (ZZD)}{k:Nat}(h:k<a.length):ix a (k:Int)=some (a.getD k []):=by
 rw [gG,zab h,zaH,zab h];rfl
theorem aHO {u:ae}(U:gJ u)(N:Nat)(hN:1000≤N){y:Nat}(hy:y<u.ab.length)(a:List (ZZD))(ha:a.length=u.ab.length):O7 N u (y:Int) a=some (qb u a y u.ab[y]):=by
 have hi:u.ab[y]? =some u.ab[y]:=zab hy;unfold O7;rw [Xl U N hN y hy,zaf,gG,hi,zaf]
 rw [ahk _ (fun(s:ZZD) (x:Int×Int)=>jU (rC (BO u.ab[y]) x.2 (a.getD x.1.toNat [])) s) (jG u y u.ab[y]) (fun _ _=>True) (fun n s x hx _=>by
  have h1:=Ej U hi hx;obtain⟨k,hk⟩:=zaY h1.1;rw [hk]at h1;unfold QF;rw [hk,ar3 (by omega),zau,zaf,aHP];exact⟨rfl,trivial⟩) _ _ (fun x hx=>hx) trivial,zaf,aHQ N hN,zaf,zac (show(pF u.ab[y]).length≤1000 by have:=arV u.ab[y];omega)]
 rfl
structure LS (u:ae) (a:List (ZZD)):Prop where
 li:LI u a
 sD:∀l∈a,iQ l
theorem LS.at {u a}(H:LS u a)(y:Nat):iQ (a.getD y []):=by
 rw [zaH];cases h:a[y]? with
 | none=>exact .nil
 | some l=>exact H.sD l (zat h)
theorem LI.ar4 {u a}(H:LI u a){l:ZZD}(hl:l∈a)(S:iQ l):l.length≤2*u.ab.length:=by
 obtain⟨k,hk⟩:=zaV hl;refine zay (arZ S (Kl u.ab).1 fun s hs=>?_).1 (Kl u.ab).2.1;exact(H.snd k s (by rw [zaH,hk];exact hs)).univ
theorem LS.qc {u a}(H:LS u a):qc a≤u.ab.length*(2*u.ab.length):=by
 have:=ar2 (m:=2*u.ab.length) fun l hl=>H.li.ar4 hl (H.sD l hl)
 rwa [H.li.len]at this
theorem ahl {u:ae}(U:gJ u)(N:Nat)(hN:1000≤N)(K:Bool→List (ZZD)→Option (List (ZZD))):∀(m n:Nat) (a:List (ZZD)) (c:Bool),LS u a→m≤u.ab.length→m<n→
 ∃a' c',DJ N u K n a c ((m:Int)-1)=K c' a'∧LS u a'∧qc a≤qc a'∧(c'=true→c=true∨qc a<qc a')∧(c'=false→c=false∧a'=a∧∀y i,y<m→u.ab[y]? =some i→∀s∈qb u a y i,s∈a.getD y [])
 | m,0,a,c,_,_,h=>by omega
 | 0,n+1,a,c,H,_,_=>⟨a,c,by
  show GP N u a c _ K _=_;unfold GP;rw [zag (by omega)];rfl,H,zad _,.inl,fun h=>⟨h,rfl,fun y i h=>by omega⟩⟩
 | m+1,n+1,a,c,H,hm,hn=>by
  have oi:=U.n1;have hy:m<u.ab.length:=by omega
  have hi:u.ab[m]? =some u.ab[m]:=zab hy;have Vj:m<a.length:=by rw [H.li.len];exact hy
  have e:DJ N u K (n+1) a c (((m+1:Nat):Int)-1)=if (qb u a m u.ab[m]).length=(a.getD m []).length then DJ N u K n a c ((m:Int)-1)else DJ N u K n (a.set m (qb u a m u.ab[m])) true ((m:Int)-1):=by
   show GP N u a c _ K _=_;unfold GP Wn O6;rw [show(((m+1:Nat):Int)-1)=(m:Int) by omega,zac (by omega),aHO U N hN hy a H.li.len,ar3 Vj,jv (by omega) (by omega)];simp only [zam,zaf,zau]
   by_cases h:(qb u a m u.ab[m]).length=(a.getD m []).length
   · rw [if_pos h,zac (by omega)];rfl
   · rw [if_neg h,zag (by omega)];rfl
  rw [e];have sub:=arZ (H.at m) (ar0 u a m u.ab[m]) (H.li.grow m _ hi)
  by_cases h:(qb u a m u.ab[m]).length=(a.getD m []).length
  · rw [if_pos h];obtain⟨a',c',h1,h2,h3,h4,h5⟩:=ahl U N hN K m n a c H (by omega) (by omega);refine⟨a',c',h1,h2,h3,h4,fun hc=>?_⟩;obtain⟨h6,h7,h8⟩:=h5 hc;refine⟨h6,h7,fun y i hy' fx s hs=>?_⟩
    by_cases hym:y=m
    · subst hym;rw [hi]at fx;cases fx;rw [sub.2 h.symm];exact hs
    · exact h8 y i (by omega) fx s hs
  · rw [if_neg h]
    have H':LS u (a.set m (qb u a m u.ab[m])):=⟨H.li.set hi fun s=>Iff.rfl,fun l hl=>by
     rcases List.mem_or_eq_of_mem_set hl with hl | rfl
     · exact H.sD l hl
     · exact ar0 _ _ _ _⟩
    have ht:=ar1 (a:=a) (y:=m) (l:=qb u a m u.ab[m]) Vj;have cy:=sub.1;obtain⟨a',c',h1,h2,h3,h4,h5⟩:=ahl U N hN K m n _ true H' (by omega) (by omega);exact⟨a',c',h1,h2,by omega,fun _=>.inr (by omega),fun hc=>by have:=(h5 hc).1;cases this⟩
theorem aHR (N:Nat)(a:List (ZZD))(ha:a.length≤600)(hN:1000≤N)(hl:∀l∈a,l.length≤2000):Wl N a (fun a0=>JL a0)=some a:=by
 have key:∀(n i:Nat),i≤a.length→a.length<n+i→JJ N (a.length:Int) a (fun a0=>JL a0) n (a.take i) (i:Int)=some a:=by
  intro n
  induction n with
  | zero=>intro i h1 h2;omega
  | succ n ih=>
   intro i h1 h2;show O5 N _ a _ (a.take i) (i:Int) _=_;unfold O5 Wi Wh Wj
   by_cases hi:i<a.length
   · have h3:=hl a[i] (zbl hi);rw [qM i _ hi,gG,zab hi];simp only [zam,zaf];unfold JL;rw [zac (show a[i].length≤1048576 by omega)];show gu (decide ((a.take i).length+[a[i]].length≤1048576)) _=_;rw [zac (by rw [za3];simp;omega),qN i (by omega)];show JJ N _ a _ n (a.take i++[a[i]]) _=_;rw [←List.take_succ_eq_append_getElem hi];exact ih (i+1) hi (by omega)
   · have:i=a.length:=by omega
     subst this;rw [qO,List.take_length];rfl
 have:=key N 0 (zaz _) (by omega);exact this
theorem ar5 {u}(U:gJ u)(N:Nat)(hN:1000≤N):∀(n:Nat) (a:List (ZZD)),LS u a→u.ab.length*(2*u.ab.length)+2≤n+qc a→DK N u n a true=some (rH u)
 | 0,a,H,h=>by have:=H.qc;omega
 | n+1,a,H,h=>by
  have hn:=U.n1;show O8 N u a (fun ar bY=>DK N u n bY ar)=_;unfold O8;rw [jv (by omega) (by omega)];obtain⟨a',c',h1,h2,h3,h4,h5⟩:=ahl U N hN (fun ar bY=>DK N u n bY ar) u.ab.length N a false H (zad _) (by omega);rw [h1];have ht:=H.qc;cases c' with
  | true=>
   have h6:qc a<qc a':=(h4 rfl).resolve_left (by simp);exact ar5 U N hN n a' h2 (by omega)
  | false=>
   obtain⟨_,rfl,h8⟩:=h5 rfl;obtain⟨m,rfl⟩:∃m,n=m+1:=⟨n-1,by omega⟩;show O9 N a'=_;unfold O9;have e:a'=rH u:=H.li.eq U H.sD fun y i hi s hs=>h8 y i (List.getElem?_eq_some_iff.1 hi).1 hi s hs
   rw [aHR N a' (by rw [H.li.len];omega) hN fun l hl=>by have:=H.li.ar4 hl (H.sD l hl);omega,e];rfl
theorem ar6 {u}(U:gJ u)(N:Nat)(hN:1000≤N)(hb:u.ab.length*(2*u.ab.length)+2≤N):IX N u=some (rH u):=by
 have hn:=U.n1;unfold IX Wo;rw [Xi N hN,U.pl,zaf];show gu (decide _&&decide _) _=_;rw [zac (show(0:Int)≤(u.ab.length:Int) by omega),zac (show(u.ab.length:Int)≤65536 by omega)];show DK N u N (List.replicate (u.ab.length:Int).toNat ([]:ZZD)) true=_;rw [zau];exact ar5 U N hN N _ ⟨LI.start u,fun l hl=>by rw [List.eq_of_mem_replicate hl];exact .nil⟩ (by omega)
def QL (args yG frame:Int) (nc ng:Nat):Int:=if 16<args∨200<yG∨200<frame∨600<(nc:Int)∨40<(ng:Int)then 3 else if args<0∨yG<1∨frame<0∨(if frame=0 then yG else frame)<args∨(nc:Int)=0 then 1 else 0
abbrev Eo (u:ae):Int:=QL u.fArgs u.aE u.aD u.ab.length u.aI.length
theorem aIk (u:ae):Pl u=some (Eo u):=by
 unfold Pl Pk Pj Ph Pg Eo QL
 by_cases a1:16<u.fArgs
 · simp [a1]
 by_cases a2:200<u.aE
 · simp [a1,a2]
 by_cases a3:200<u.aD
 · simp [a1,a2,a3]
 by_cases a4:600<(u.ab.length:Int)
 · simp only [a1,a2,a3,a4,zaK,za7,zam,zak,if_true,false_or,true_or,or_true]
 by_cases a5:40<(u.aI.length:Int)
 · simp only [a1,a2,a3,a4,a5,zaK,za7,zam,zak,if_true,false_or,true_or,or_true]
 simp only [a1,a2,a3,a4,a5,zaK,za7,zam,zak,if_true,if_false,false_or,or_false];unfold Ws Pf Pe Pd Pc Pb Wr
 by_cases f0:u.aD=0<;>by_cases b1:u.fArgs<0<;>by_cases b2:u.aE<1<;>by_cases b3:u.aD<0<;>by_cases b4:u.aE<u.fArgs<;>by_cases b5:u.aD<u.fArgs<;>by_cases b6:u.ab=[]<;>
  simp [f0,b1,b2,b3,b4,b5,b6]
theorem ahq {u}(h:Eo u=0):0≤u.fArgs∧u.fArgs≤16∧1≤u.aE∧u.aE≤200∧0≤u.aD∧u.aD≤200∧1≤u.ab.length∧u.ab.length≤600∧u.aI.length≤40∧u.fArgs≤(if u.aD=0 then u.aE else u.aD):=by
 unfold Eo QL at h
 by_cases h1:16<u.fArgs∨200<u.aE∨200<u.aD∨600<(u.ab.length:Int)∨40<(u.aI.length:Int)
 · rw [if_pos h1]at h;cases h
 rw [if_neg h1]at h
 by_cases h2:u.fArgs<0∨u.aE<1∨u.aD<0∨(if u.aD=0 then u.aE else u.aD)<u.fArgs∨(u.ab.length:Int)=0
 · rw [if_pos h2]at h;cases h
 omega
theorem BS (n:Nat)(p:aO)(u:ae)(i:ah):rA (n+4) p u i=bif (!isOp i.aJ)then some false else
 (sJ p u (ez i.aJ).cL.e0 i.fA).bind fun a=>bif (!a)then some false else(sJ p u (ez i.aJ).cL.e1 i.fB).bind fun b=>bif (!b)then some false else(sJ p u (ez i.aJ).cL.e2 i.fC).bind fun c=>bif (!c)then some false else GS (n+4) i p:=by
 show((some (ez i.aJ,isOp i.aJ)).bind fun fq=>bif (!fq.2)then some false else Wz (n+4) i p u fq.1)=_;rfl
theorem ahr (op:Int):∃a b c:Nat,a≤12∧b≤12∧c≤12∧(ez op).cL=⟨a,b,c⟩:=by
 cases h:isOp op with
 | true=>rcases MH h with rfl | rfl | rfl | rfl | rfl | rfl | rfl | rfl | rfl | rfl | rfl | rfl | rfl | rfl | rfl | rfl | rfl | rfl | rfl | rfl | rfl | rfl | rfl | rfl | rfl | rfl | rfl | rfl | rfl | rfl | rfl | rfl | rfl | rfl<;>exact⟨_,_,_,by decide,by decide,by decide,rfl⟩
 | false=>exact⟨0,0,0,by decide,by decide,by decide,by unfold ez;rw [h];rfl⟩
theorem aIl (N:Nat)(l:List ah)(f:ah→Option Bool)(p:ah→Bool)(hf:∀a,f a=some (p a))(hl:l.length<1000000)(hN:l.length<N):PV N l f=some (lZ p l 0):=by
 unfold PV;rw [←QG]
 exact Hc l (fun n y=>JY N (l.length:Int) l f n y) _ _ hl (fun n y a hy ha=>by
  show(bif decide (y<(l.length:Int))then((ix l y).bind fun gi=>(f gi).bind fun eR=>bif eR then some y else JY N (l.length:Int) l f n (bN .i64 (y+1)))else some (-1))=_;rw [zac hy,ha];show((f a).bind _)=_;rw [hf];cases p a<;>rfl) (fun n=>by
  show(bif decide ((l.length:Int)<(l.length:Int))then _ else some (-1))=_;rw [zag (zby _)];rfl) N 0 (zaz _) (by omega)
theorem xW (p:aO)(u:ae)(k:Nat)(x:Int)(hk:k≤12)(hs:p.bw.length<1000000):∃b,sJ p u k x=some b∧(7≤k→k≤9→b=true→0≤x∧x<(p.bw.length:Int)):=by
 have hw:bN .i64 ((p.bw.length:Int)-1)=(p.bw.length:Int)-1:=jv (by omega) (by omega);have BT:∀a b:Int,((kb x a b).bind some)=some (decide (a≤x∧x≤b)):=fun a b=>by rw [rD];rfl
 have hJ:∀k:Int,∃b,Po p x k=some b∧(b=true→0≤x∧x<(p.bw.length:Int)):=fun k=>by
  unfold Po;rw [rD,hw]
  by_cases h:0≤x∧x≤(p.bw.length:Int)-1
  · obtain⟨s,e⟩:=BL (l:=p.bw) h.1 (by omega);rw [zac h];unfold Wv GR;simp only [zaf,zas,zak,e];have:0≤x∧x<(p.bw.length:Int):=by omega
    by_cases k8:k=8<;>by_cases k7:k=7<;>by_cases k9:k=9<;>by_cases sa:s.fArgs=0<;>cases hr:s.nZ<;>simp [k8,k7,k9,sa,hr,this]
  · rw [zag h];exact⟨false,rfl,fun h=>by cases h⟩
 match k,hk with
 | 0,_=>exact⟨_,rfl,fun h h'=>by omega⟩
 | 1,_=>exact⟨_,BT _ _,fun h h'=>by omega⟩
 | 2,_=>exact⟨_,BT _ _,fun h h'=>by omega⟩
 | 3,_=>exact⟨_,BT _ _,fun h h'=>by omega⟩
 | 4,_=>exact⟨_,BT _ _,fun h h'=>by omega⟩
 | 5,_=>exact⟨_,BT _ _,fun h h'=>by omega⟩
 | 6,_=>exact⟨_,BT _ _,fun h h'=>by omega⟩
 | 7,_=>obtain⟨b,h1,h2⟩:=hJ 7;exact⟨b,h1,fun _ _=>h2⟩
 | 8,_=>obtain⟨b,h1,h2⟩:=hJ 8;exact⟨b,h1,fun _ _=>h2⟩
 | 9,_=>obtain⟨b,h1,h2⟩:=hJ 9;exact⟨b,h1,fun _ _=>h2⟩
 | 10,_=>exact⟨_,BT _ _,fun h h'=>by omega⟩
 | 11,_=>exact⟨_,BT _ _,fun h h'=>by omega⟩
 | 12,_=>exact⟨_,BT _ _,fun h h'=>by omega⟩
theorem aIm (n:Nat)(p:aO)(u:ae)(i:ah)(hs:p.bw.length<1000000):∃b,rA (n+4) p u i=some b:=by
 rw [BS];cases h:isOp i.aJ with
 | false=>exact⟨false,rfl⟩
 | true=>
  obtain⟨a,b,c,ha,hb,hc,e⟩:=ahr i.aJ;rw [e];obtain⟨x,hx,_⟩:=xW p u a i.fA ha hs;obtain⟨y,hy,_⟩:=xW p u b i.fB hb hs;obtain⟨z,hz,h8⟩:=xW p u c i.fC hc hs;simp only [hx,hy,hz,zaf,zas,zak];cases x with
  | false=>exact⟨false,rfl⟩
  | true=>cases y with
   | false=>exact⟨false,rfl⟩
   | true=>cases z with
    | false=>exact⟨false,rfl⟩
    | true=>
     simp only [zas,zak];unfold GS JO
     by_cases wH:i.aJ=20
     · by_cases hA:i.fA<0
       · simp [wH,hA]
       · have e3:(⟨a,b,c⟩:ox)=⟨2,2,8⟩:=by rw [←e,wH];rfl
         injection e3 with e4 e5 e6
         have c8:c=8:=by omega
         obtain⟨s,es⟩:=BL (h8 (by omega) (by omega) rfl).1 (h8 (by omega) (by omega) rfl).2;simp [wH,hA,es]
     · simp [wH]
def wI (p:aO) (u:ae) (i:ah):Bool:=(rA 4 p u i).getD false
theorem Xo (n:Nat)(p:aO)(u:ae)(i:ah)(hs:p.bw.length<1000000):rA (n+4) p u i=some (wI p u i):=by
 obtain⟨b,h⟩:=aIm 0 p u i hs;have e:rA (n+4) p u i=rA 4 p u i:=by rw [BS n,show rA 4 p u i=_ from BS 0 p u i];rfl
 unfold wI;rw [e,show rA 4 p u i=some b from h];rfl
abbrev ahs (p:aO) (u:ae):Int:=lZ (fun i=> !wI p u i) u.ab 0
theorem aIn (N:Nat)(p:aO)(u:ae)(v3 v4:Int)(hs:p.bw.length<1000000)(hl:u.ab.length≤600)(hN:1000≤N):
 J6 N u p v3 v4=bif decide (0≤ahs p u)then some (1,ahs p u)else J5 N u v3 v4 p:=by
 obtain⟨n,rfl⟩:∃n,N=n+4:=⟨N-4,by omega⟩;unfold J6;rw [aIl (n+4) u.ab _ (fun i=> !wI p u i) (fun i=>by unfold Qa;rw [Xo n p u i hs];rfl) (by omega) (by omega)];rfl
theorem Xp {p u i}(hs:p.bw.length<1000000)(h:wI p u i=true):(i.aJ=20→0≤i.fC∧i.fC<(p.bw.length:Int))∧(i.aJ=22→0≤i.fB∧i.fB<(p.bw.length:Int))∧isOp i.aJ=true:=by
 have hr:=Xo 0 p u i hs;rw [h,BS]at hr;cases ho:isOp i.aJ with
 | false=>rw [ho]at hr;cases hr
 | true=>
  rw [ho]at hr;obtain⟨a,b,c,ha,hb,hc,e⟩:=ahr i.aJ;rw [e]at hr;obtain⟨x,hx,_⟩:=xW p u a i.fA ha hs;obtain⟨y,hy,g1⟩:=xW p u b i.fB hb hs;obtain⟨z,hz,g2⟩:=xW p u c i.fC hc hs;simp only [hx,hy,hz,zaf,zas,zak]at hr;cases x with
  | false=>cases hr
  | true=>cases y with
   | false=>cases hr
   | true=>cases z with
    | false=>cases hr
    | true=>
     refine⟨fun wH=>?_,fun Hd=>?_,rfl⟩
     · have e3:(⟨a,b,c⟩:ox)=⟨2,2,8⟩:=by rw [←e,wH];rfl
       injection e3 with e4 e5 e6
       exact g2 (by omega) (by omega) rfl
     · have e3:(⟨a,b,c⟩:ox)=⟨1,9,0⟩:=by rw [←e,Hd];rfl
       injection e3 with e4 e5 e6
       exact g1 (by omega) (by omega) rfl
theorem aht {α}(p:α→Bool):∀(l:List α) (y:Int),0≤y→¬0≤lZ p l y→∀a∈l,p a=false
 | [],_,_,_,a,h=>by cases h
 | b::l,y,hy,h,a,ha=>by
  unfold lZ at h;cases hb:p b with
  | true=>rw [hb]at h;exact absurd hy h
  | false=>
   rw [hb]at h;rcases List.mem_cons.1 ha with rfl | ha
   · exact hb
   · exact aht p l (y+1) (by omega) h a ha
def wJ (p:aO) (i:ah):Option Nat:=if i.aJ=20 then(ix p.bw i.fC).map fun s=>s.fArgs.toNat else if i.aJ=22 then(ix p.bw i.fB).map fun s=>s.fArgs.toNat else none
def Ep (u:ae) (s j:Nat):Bool:=match u.ab[s+j]? with | some a=>decide (a.aJ=19∧a.fA=(j:Int)) | none=>false
def qQ (u:ae) (s:Nat):Nat→Bool | 0=>true | k+1=>qQ u s k&&Ep u s k
def xY (u:ae) (c k:Nat):Bool:=decide (k≤c)&&qQ u (c-k) k
def iE (p:aO) (u:ae) (c i s:Nat):Prop:=∃ins k,u.ab[c]? =some ins∧wJ p ins=some k∧xY u c k=true∧s+k=c∧s≤i∧i≤c
theorem ahx {u s}:∀{k j:Nat},qQ u s k=true→j<k→Ep u s j=true
 | 0,j,_,h=>by omega
 | k+1,j,h,hj=>by
  unfold qQ at h;rw [zae]at h
  by_cases e:j=k
  · subst e;exact h.2
  · exact ahx h.1 (by omega)
theorem asx {u s j}(h:Ep u s j=true):∃a,u.ab[s+j]? =some a∧a.aJ=19∧a.fA=(j:Int):=by
 unfold Ep at h;split at h
 · rename_i a ha;exact⟨a,ha,zao h⟩
 · cases h
theorem ahw {p i k}(h:wJ p i=some k):i.aJ=20∨i.aJ=22:=by
 unfold wJ at h;split at h
 · exact .inl (by assumption)
 · split at h
   · exact .inr (by assumption)
   · cases h
theorem iE.arg {p u c i s}(H:iE p u c i s)(h:i<c):∃a,u.ab[i]? =some a∧a.aJ=19:=by
 obtain⟨ins,k,h1,h2,h3,h4,h5,h6⟩:=H;unfold xY at h3;rw [zae]at h3;have e:c-k=s:=by omega
 have:=asx (ahx h3.2 (show i-s<k by omega));obtain⟨a,ha,ho,_⟩:=this;rw [show c-k+(i-s)=i by omega]at ha;exact⟨a,ha,ho⟩
theorem iE.call {p u c i s}(H:iE p u c i s):∃a,u.ab[c]? =some a∧a.aJ≠19:=by
 obtain⟨ins,k,h1,h2,h3,h4,h5,h6⟩:=H;refine⟨ins,h1,fun e=>?_⟩;rcases ahw h2 with h | h<;>rw [e]at h<;>cases h
theorem iE.uniq {p u c c' i s s'}(H:iE p u c i s)(H':iE p u c' i s'):c=c'∧s=s':=by
 have key:∀{c c' s s':Nat},iE p u c i s→iE p u c' i s'→¬c<c':=fun {c c' s s'} H H' hc=>by
  obtain⟨a,h1,h2⟩:=H.call;have hs':s'≤i∧i≤c':=by obtain⟨_,_,_,_,_,_,h5,h6⟩:=H';exact⟨h5,h6⟩
  have hs:s≤i∧i≤c:=by obtain⟨_,_,_,_,_,_,h5,h6⟩:=H;exact⟨h5,h6⟩
  obtain⟨ins,k,g1,g2,g3,g4,g5,g6⟩:=H';have H2:iE p u c' c s':=⟨ins,k,g1,g2,g3,g4,by omega,by omega⟩;obtain⟨b,h3,h4⟩:=H2.arg hc;rw [h1]at h3;cases h3;exact h2 h4
 have e:c=c':=Nat.le_antisymm (Nat.le_of_not_lt (key H' H)) (Nat.le_of_not_lt (key H H'));subst e;obtain⟨ins,k,g1,g2,g3,g4,g5,g6⟩:=H;obtain⟨asy,k',UG,g2',Iw,ku,g5',g6'⟩:=H';rw [g1]at UG;cases UG;rw [g2]at g2';cases g2';exact⟨rfl,by omega⟩
def sU {α:Type}:Nat→Nat→α→List α→List α | 0,_,_,l=>l | n+1,s,x,l=>sU n (s+1) x (l.set s x)
theorem ahB {α}(x:α):∀(n s:Nat) (l:List α),(sU n s x l).length=l.length
 | 0,s,l=>rfl
 | n+1,s,l=>by unfold sU;rw [ahB x n (s+1)];simp
theorem ahC {α}(x:α):∀(n s:Nat) (l:List α) (m:Nat),m<l.length→(sU n s x l)[m]? =if s≤m∧m<s+n then some x else l[m]?
 | 0,s,l,m,h=>by rw [if_neg (by omega)];rfl
 | n+1,s,l,m,h=>by
  unfold sU;rw [ahC x n (s+1) (l.set s x) m (by simpa using h),zaX]
  by_cases e:s=m
  · subst e;rw [if_neg (by omega),if_pos rfl,if_pos h,if_pos (by omega)]
  · rw [if_neg e]
    by_cases h2:s+1≤m∧m<s+1+n
    · rw [if_pos h2,if_pos (by omega)]
    · rw [if_neg h2,if_neg (by omega)]
theorem asD (i:ah):DO i=some (if i.aJ=20 then(i.fC,true)else if i.aJ=22 then(i.fB,true)else(0,false)):=by
 unfold DO Wq
 by_cases h:i.aJ=20
 · simp [h]
 · by_cases h2:i.aJ=22<;>simp [h,h2]
theorem asE {u s} : ∀ {k j : Nat}, j ≤ k → qQ u s j = false → qQ u s k = false
  | 0, j, h, e => by have : j = 0 := by omega
                     subst this; exact e
  | k + 1, j, h, e => by
    by_cases hj : j = k + 1
    · subst hj; exact e
    · unfold qQ; rw [asE (by omega) e]; rfl
abbrev HK:=Int→ZZD→List Bool→Option (ZZD×Int)
section
variable (N:Nat) (p:aO) (u:ae) (K:HK)
theorem asF (k y:Nat)(hy:y<u.ab.length)(hl:u.ab.length≤600)(hk:k≤y)(v6:ZZD)(v10:List Bool):∀(n j:Nat),j≤k→k<n+j→
 JP N (k:Int) u (y:Int) p K n v6 v10 (qQ u (y-k) j) (j:Int)=Py N (y:Int) (k:Int) v6 v10 (qQ u (y-k) k) p u K
 | 0,j,h1,h2=>by omega
 | n+1,j,h1,h2=>by
  show PA N (k:Int) u (y:Int) v6 v10 (qQ u (y-k) j) (j:Int) p K (fun ar cd bY dH=>JP N (k:Int) u (y:Int) p K n bY dH ar cd)=_;unfold PA Pz;cases ha:qQ u (y-k) j with
  | false=>rw [asE h1 ha];rfl
  | true=>
   by_cases e:j=k
   · subst e;rw [ha,zag (zby _)];rfl
   · have hj:j<k:=by omega
     rw [zac (show(j:Int)<(k:Int) by omega)];show Pu N u (y:Int) (k:Int) (j:Int) v6 v10 p _=_;unfold Pu Pt;rw [jv (n:=(y:Int)-k) (by omega) (by omega),jv (n:=(y:Int)-k+j) (by omega) (by omega),jv (n:=(j:Int)+1) (by omega) (by omega)];have ei:(y:Int)-k+j=((y-k+j:Nat):Int):=by omega
     have cy:y-k+j<u.ab.length:=by omega
     rw [ei,gG,zab cy];have ih:=asF k y hy hl hk v6 v10 n (j+1) hj (by omega)
     have eb:qQ u (y-k) (j+1)=(decide (u.ab[y-k+j].aJ=19)&&decide (u.ab[y-k+j].fA=(j:Int))):=by
      show(qQ u (y-k) j&&Ep u (y-k) j)=_;rw [ha];unfold Ep;rw [zab cy];show(true&&decide _)=_;rw [zbE,Bool.decide_and]
     rw [eb]at ih;rw [←ih]
     by_cases QP:u.ab[y-k+j].aJ=19
     · simp [QP]
     · simp [QP]
theorem asG (k y:Nat)(hy:y<u.ab.length)(hl:u.ab.length≤600)(hk:k≤y):∀(n i:Nat) (v6:ZZD) (v10:List Bool),v6.length=u.ab.length→v10.length=u.ab.length→i≤y+1→y+1<n+i→
 GV N (y:Int) (k:Int) p u K n v6 v10 (i:Int)=K ((y:Int)+1) (sU (y+1-i) i ((y-k:Nat):Int) v6) (sU (y+1-i) i true v10)
 | 0,i,v6,v10,h1,h2,h3,h4=>by omega
 | n+1,i,v6,v10,h1,h2,h3,h4=>by
  show Pw N (y:Int) (k:Int) v6 v10 (i:Int) p u K (fun ar di bY=>GV N (y:Int) (k:Int) p u K n di bY ar)=_;unfold Pw
  by_cases e:i=y+1
  · subst e;rw [zag (by omega),Nat.sub_self];show K (bN .i64 ((y:Int)+1)) v6 v10=_;rw [jv (by omega) (by omega)];rfl
  · rw [zac (by omega)];show Pv N (y:Int) (k:Int) v6 (i:Int) v10 p u _=_;unfold Pv WE;rw [gG,gG,zab (by omega:i<v6.length),zab (by omega:i<v10.length),jv (n:=(y:Int)-k) (by omega) (by omega),jv (n:=(i:Int)+1) (by omega) (by omega)];show GV N (y:Int) (k:Int) p u K n (v6.set i ((y:Int)-k)) (v10.set i true) ((i:Int)+1)=_;have ih:=asG k y hy hl hk n (i+1) (v6.set i ((y:Int)-k)) (v10.set i true) (by simpa using h1) (by simpa using h2) (by omega) (by omega);have ec:((i+1:Nat):Int)=(i:Int)+1:=rfl;rw [ec]at ih;rw [ih,show y+1-i=(y+1-(i+1))+1 by omega];have es:(y:Int)-k=((y-k:Nat):Int):=by omega
    rw [es];rfl
end
structure SelOk (p:aO):Prop where
 len:p.bw.length<1000000
 args:∀s∈p.bw,0≤s.fArgs∧s.fArgs≤1000000
structure UnOk (p:aO) (u:ae):Prop extends SelOk p where
 code:u.ab.length≤600
 guards:u.aI.length≤40
 right:∀i∈u.ab,wI p u i=true
theorem asH {α:Type}{l:List α}{x:Int}{a:α}(h:ix l x=some a):a∈l:=by
 obtain⟨i,_,_,h3⟩:=Bf h;exact zat h3
theorem aIB {p:aO}{u:ae}(U:UnOk p u){i:ah}(hi:i∈u.ab):
 (∃x s,DO i=some (x,true)∧ix p.bw x=some s∧wJ p i=some s.fArgs.toNat∧(s.fArgs.toNat:Int)=s.fArgs∧(i.aJ=20∨i.aJ=22)∧s.fArgs≤1000000)∨
 (∃x,DO i=some (x,false)∧wJ p i=none∧i.aJ≠20∧i.aJ≠22):=by
 obtain⟨wH,Hd,ho⟩:=Xp U.len (U.right i hi);rw [asD]
 by_cases e:i.aJ=20
 · obtain⟨s,es⟩:=BL (wH e).1 (wH e).2;have ha:=U.args s (asH es);exact .inl ⟨i.fC,s,by rw [if_pos e],es,by unfold wJ;rw [if_pos e,es];rfl,by omega,.inl e,ha.2⟩
 · by_cases e2:i.aJ=22
   · obtain⟨s,es⟩:=BL (Hd e2).1 (Hd e2).2;have ha:=U.args s (asH es);exact .inl ⟨i.fB,s,by rw [if_neg e,if_pos e2],es,by unfold wJ;rw [if_neg e,if_pos e2,es];rfl,by omega,.inr e2,ha.2⟩
   · exact .inr ⟨0,by rw [if_neg e,if_neg e2],by unfold wJ;rw [if_neg e,if_neg e2],e,e2⟩
theorem aIC {p u}(U:UnOk p u)(N:Nat)(hN:1000≤N)(K:HK)(y:Nat)(hy:y<u.ab.length)(v6:ZZD)(v10:List Bool)(l6:v6.length=u.ab.length)(l10:v10.length=u.ab.length):
 (∃k,wJ p u.ab[y]=some k∧xY u y k=true∧GW N u.ab (y:Int) p u v6 v10 K=K ((y:Int)+1) (sU (k+1) (y-k) ((y-k:Nat):Int) v6) (sU (k+1) (y-k) true v10))∨
 ((∀k,wJ p u.ab[y]=some k→xY u y k=false)∧GW N u.ab (y:Int) p u v6 v10 K=K ((y:Int)+1) v6 v10):=by
 have hl:=U.code;have J9:GU N (y:Int) p u v6 v10 K=K ((y:Int)+1) v6 v10:=by unfold GU;rw [jv (by omega) (by omega)]
 unfold GW;rw [gG,zab hy,zaf];rcases aIB U (zbl hy)with⟨x,s,h1,h2,h3,h4,_,hb⟩ | ⟨x,h1,h2,_⟩
 · rw [h1];show((∃k,_∧_∧JQ N p x (y:Int) u v6 v10 K=_)∨(_∧JQ N p x (y:Int) u v6 v10 K=_));unfold JQ;rw [h2,zaf,←h4];generalize hk:s.fArgs.toNat=k at h3 h4
   by_cases QQ:k≤y
   · rw [zac (show(k:Int)≤(y:Int) by omega)];have:=asF N p u K k y hy hl QQ v6 v10 N 0 (zaz _) (by omega);have e0:qQ u (y-k) 0=true:=rfl;rw [e0]at this;rw [show((0:Nat):Int)=0 from rfl]at this;rw [this];unfold Py;cases ha:qQ u (y-k) k with
     | false=>
      refine .inr ⟨fun k' h=>?_,J9⟩;rw [h3]at h;cases h;unfold xY;rw [ha,Bool.and_false]
     | true=>
      refine .inl ⟨k,h3,by unfold xY;rw [ha,zac QQ];rfl,?_⟩;show Px N (y:Int) (k:Int) v6 v10 p u K=_;unfold Px;rw [jv (by omega) (by omega),show(y:Int)-(k:Int)=((y-k:Nat):Int) by omega];rw [asG N p u K k y hy hl QQ N (y-k) v6 v10 l6 l10 (by omega) (by omega),show y+1-(y-k)=k+1 by omega]
   · rw [zag (show¬(k:Int)≤(y:Int) by omega)];obtain⟨n,rfl⟩:∃n,N=n+1:=⟨N-1,by omega⟩;refine .inr ⟨fun k' h=>?_,J9⟩;rw [h3]at h;cases h;unfold xY;rw [zag QQ];rfl
 · rw [h1];refine .inr ⟨fun k h=>?_,J9⟩;rw [h2]at h;cases h
def Xu (p:aO) (u:ae) (y:Nat) (s:ZZD×List Bool):Prop:=s.1.length=u.ab.length∧s.2.length=u.ab.length∧∀m,m<u.ab.length→((∃c b,c<y∧iE p u c m b∧s.1[m]? =some (b:Int)∧s.2[m]? =some true)∨((∀c b,c<y→¬iE p u c m b)∧s.1[m]? =some (m:Int)∧s.2[m]? =some false))
theorem aID {p u}(U:UnOk p u)(y:Nat)(hy:y<u.ab.length)(v6:ZZD)(v10:List Bool)(H:Xu p u y (v6,v10)):
 (∀k,wJ p u.ab[y]=some k→xY u y k=true→Xu p u (y+1) (sU (k+1) (y-k) ((y-k:Nat):Int) v6,sU (k+1) (y-k) true v10))∧
 ((∀k,wJ p u.ab[y]=some k→xY u y k=false)→Xu p u (y+1) (v6,v10)):=by
 obtain⟨l6,l10,H⟩:=H;have e0:u.ab[y]? =some u.ab[y]:=zab hy;refine⟨fun k hk hh=>⟨by rw [ahB];exact l6,by rw [ahB];exact l10,fun m hm=>?_⟩,fun AN=>⟨l6,l10,fun m hm=>?_⟩⟩
 · have QQ:k≤y:=by unfold xY at hh;rw [zae]at hh;exact zao hh.1
   have l6':m<v6.length:=by have:=l6;simp only at this;omega
   have aIE:m<v10.length:=by have:=l10;simp only at this;omega
   show(∃c b,c<y+1∧iE p u c m b∧(sU (k+1) (y-k) ((y-k:Nat):Int) v6)[m]? =some (b:Int)∧(sU (k+1) (y-k) true v10)[m]? =some true)∨((∀c b,c<y+1→¬iE p u c m b)∧(sU (k+1) (y-k) ((y-k:Nat):Int) v6)[m]? =some (m:Int)∧(sU (k+1) (y-k) true v10)[m]? =some false);rw [ahC _ _ _ _ _ l6',ahC _ _ _ _ _ aIE]
   by_cases sR:y-k≤m∧m<y-k+(k+1)
   · rw [if_pos sR,if_pos sR];exact .inl ⟨y,y-k,zax y,⟨_,k,e0,hk,hh,by omega,sR.1,by omega⟩,rfl,rfl⟩
   · rw [if_neg sR,if_neg sR];rcases H m hm with⟨c,b,h1,h2,h3,h4⟩ | ⟨h1,h2,h3⟩
     · exact .inl ⟨c,b,by omega,h2,h3,h4⟩
     · refine .inr ⟨fun c b hc hG=>?_,h2,h3⟩
       by_cases ec:c=y
       · subst ec;obtain⟨ins,k',g1,g2,g3,g4,g5,g6⟩:=hG;rw [e0]at g1;cases g1;rw [hk]at g2;cases g2;omega
       · exact h1 c b (by omega) hG
 · rcases H m hm with⟨c,b,h1,h2,h3,h4⟩ | ⟨h1,h2,h3⟩
   · exact .inl ⟨c,b,by omega,h2,h3,h4⟩
   · refine .inr ⟨fun c b hc hG=>?_,h2,h3⟩
     by_cases ec:c=y
     · subst ec;obtain⟨ins,k',g1,g2,g3,g4,g5,g6⟩:=hG;rw [e0]at g1;cases g1;rw [AN k' g2]at g3;cases g3
     · exact h1 c b (by omega) hG
def zR {α:Type}(q:Int→α→Bool):List α→Int→Int | [],_=> -1 | a::r,y=>bif q y a then y else zR q r (y+1)
theorem asI {α β}(q:Int→α→Bool)(f:Int→Option β)(fin:Option β):∀(l:List α) (y:Int),0≤y→zO (fun y a=>bif q y a then some (f y)else none) fin l y=bif decide (0≤zR q l y)then f (zR q l y)else fin
 | [],y,_=>rfl
 | a::r,y,hy=>by
  unfold zO zR;cases q y a with
  | true=>simp [hy]
  | false=>exact asI q f fin r (y+1) (by omega)
theorem asJ {α}(q:Int→α→Bool):∀(l:List α) (y:Int),0≤y→¬0≤zR q l y→zR q l y= -1
 | [],y,_,_=>rfl
 | a::r,y,hy,h=>by
  unfold zR at*;cases hq:q y a with
  | true=>rw [hq]at h;exact absurd hy h
  | false=>rw [hq]at h;exact asJ q r (y+1) (by omega) h
def Hg (p:aO) (u:ae) (y:Int) (a:ah):Bool:=(decide (a.aJ=20)||decide (a.aJ=22)||decide (a.aJ=19))&& !decide (∃c b,iE p u c y.toNat b)
abbrev Kr (p:aO) (u:ae):Int:=zR (Hg p u) u.ab 0
theorem iE.lt {p u c i s}(H:iE p u c i s):c<u.ab.length:=by
 obtain⟨ins,k,h1,_⟩:=H;exact(List.getElem?_eq_some_iff.1 h1).1
def Hh (p:aO) (u:ae) (hd:ZZD):Prop:=hd.length=u.ab.length∧∀m,m<u.ab.length→((∃c b,iE p u c m b∧hd[m]? =some (b:Int))∨((∀c b,¬iE p u c m b)∧hd[m]? =some (m:Int)))
theorem aIF {p u}(U:UnOk p u)(N:Nat)(hN:1000≤N):∃hd,Hh p u hd∧PH N p u=some (hd,Kr p u):=by
 have hl:=U.code;unfold PH;rw [show(decide (0≤(u.ab.length:Int))&&decide ((u.ab.length:Int)≤65536))=true by simp;omega];show∃hd,Hh p u hd∧GX N (u.ab.length:Int) u p N (List.replicate u.ab.length 0) (List.replicate u.ab.length false) ((0:Nat):Int)=_
 obtain⟨n1,s1,i1,e1⟩:=Xh (fun n (s:ZZD) y=>GX N (u.ab.length:Int) u p n s (List.replicate u.ab.length false) y) u.ab.length
  (fun i s=>s.length=u.ab.length∧∀m,m<u.ab.length→s[m]? =some (if m<i then(m:Int)else 0)) (fun n i s hi hI=>by
   obtain⟨h1,h2⟩:=hI;refine⟨s.set i (i:Int),⟨by simpa using h1,fun m hm=>?_⟩,?_⟩
   · rw [zaX]
     by_cases e:i=m
     · subst e;rw [if_pos rfl,if_pos (by omega),if_pos (by omega)]
     · rw [if_neg e,h2 m hm]
       by_cases h3:m<i
       · rw [if_pos h3,if_pos (by omega)]
       · rw [if_neg h3,if_neg (by omega)]
   · show(bif decide ((i:Int)<(u.ab.length:Int))then((ix s (i:Int)).bind fun fD=>GX N (u.ab.length:Int) u p n (s.set (i:Int).toNat (i:Int)) (List.replicate u.ab.length false) (bN .i64 ((i:Int)+1)))else _)=_;rw [zac (by omega),gG,h2 i hi,jv (by omega) (by omega)];rfl) N 0 (List.replicate u.ab.length 0) ⟨by simp,fun m hm=>by rw [zaF,if_pos hm,if_neg (by omega)]⟩ (zaz _) (by omega)
 rw [e1];show∃hd,Hh p u hd∧(bif decide ((u.ab.length:Int)<(u.ab.length:Int))then _ else PG N u p s1 (List.replicate u.ab.length false))=_;rw [zag (zby _),zak];unfold PG
 obtain⟨n2,s2,i2,e2⟩:=Xh (fun n (s:ZZD×List Bool) y=>DT N (u.ab.length:Int) u.ab p u n s.1 s.2 y) u.ab.length (Xu p u) (fun n i s hi hI=>by
  have st:=aIC U N hN (fun ar dH ey=>DT N (u.ab.length:Int) u.ab p u n dH ey ar) i hi s.1 s.2 hI.1 hI.2.1;have inv:=aID U i hi s.1 s.2 hI
  have eq:DT N (u.ab.length:Int) u.ab p u (n+1) s.1 s.2 (i:Int)=GW N u.ab (i:Int) p u s.1 s.2 (fun ar dH ey=>DT N (u.ab.length:Int) u.ab p u n dH ey ar):=by
   show(bif decide ((i:Int)<(u.ab.length:Int))then _ else _)=_;rw [zac (by omega)];rfl
  rcases st with⟨k,h1,h2,h3⟩ | ⟨h1,h2⟩
  · exact⟨_,inv.1 k h1 h2,eq.trans h3⟩
  · exact⟨s,inv.2 h1,eq.trans h2⟩) N 0 (s1,List.replicate u.ab.length false) ⟨i1.1,by simp,fun m hm=>.inr ⟨fun c b hc=>by omega,by show s1[m]? =_;rw [i1.2 m hm,if_pos hm],by show(List.replicate u.ab.length false)[m]? =_;rw [zaF,if_pos hm]⟩⟩ (zaz _) (by omega)
 rw [show((0:Nat):Int)=0 from rfl]at e2;rw [e2];show∃hd,Hh p u hd∧(bif decide ((u.ab.length:Int)<(u.ab.length:Int))then _ else PF N u s2.2 s2.1)=_;rw [zag (zby _),zak];obtain⟨l6,l10,HI⟩:=i2;refine⟨s2.1,⟨l6,fun m hm=>?_⟩,?_⟩
 · rcases HI m hm with⟨c,b,h1,h2,h3,h4⟩ | ⟨h1,h2,h3⟩
   · exact .inl ⟨c,b,h2,h3⟩
   · exact .inr ⟨fun c b hG=>h1 c b hG.lt hG,h2⟩
 · unfold PF
   have key:zO (fun y a=>bif Hg p u y a then some (some (s2.1,y))else none) (some (s2.1,(-1:Int))) u.ab 0=some (s2.1,Kr p u):=by
    rw [asI (Hg p u) (fun y=>some (s2.1,y)) _ u.ab 0 (zbs 0)]
    by_cases h:0≤Kr p u
    · rw [zac h];rfl
    · rw [zag h,zak,show Kr p u= -1 from asJ _ _ _ (zbs 0) h]
   rw [←key]
   exact Hc u.ab (fun n y=>PE N (u.ab.length:Int) u.ab n s2.2 s2.1 y) _ _ (by omega) (fun n y a hy ha=>by
    obtain⟨m,rfl,hm,_⟩:=Bf ha
    have CM:∃b,s2.2[m]? =some b∧Hg p u (m:Int) a=((decide (a.aJ=20)||decide (a.aJ=22)||decide (a.aJ=19))&& !b):=by
     unfold Hg;rw [zau];rcases HI m hm with⟨c,b,h1,h2,h3,h4⟩ | ⟨h1,h2,h3⟩
     · exact⟨true,h4,by rw [zac (show∃c b,iE p u c m b from⟨c,b,h2⟩)]⟩
     · exact⟨false,h3,by rw [zag (show¬∃c b,iE p u c m b from fun⟨c,b,hG⟩=>h1 c b hG.lt hG)]⟩
    obtain⟨b,hb,eb⟩:=CM;rw [eb];show(bif decide ((m:Int)<(u.ab.length:Int))then PD N u.ab (m:Int) s2.2 s2.1 _ else _)=_;rw [zac hy,zam];unfold PD PC PB WI;rw [ha,zaf,asD,zaf,gG,hb]
    by_cases wH:a.aJ=20
    · cases b<;>simp [wH]
    · by_cases Hd:a.aJ=22
      · cases b<;>simp [Hd]
      · by_cases QP:a.aJ=19
        · cases b<;>simp [QP]
        · simp [wH,Hd,QP]) (fun n=>by
    show(bif decide ((u.ab.length:Int)<(u.ab.length:Int))then _ else WK N s2.1)=_;rw [zag (zby _)];rfl) N 0 (zaz _) (by omega)
theorem aHT {y}(h:IntKind.u8.min≤y∧y≤IntKind.u8.max):0≤y∧y<256:=⟨h.1,Int.lt_of_le_of_lt h.2 (by decide)⟩
theorem aup {y}(h:(Lit.int .u8 y).wf=true):0≤y∧y<256:=aHT (by simpa [Lit.wf]using h)
theorem ar7 {u}(U:gJ u)(N:Nat)(hN:1000≤N):(∃out,FY N u=some (out,0)∧Kk u out∧Good u)∨(FY N u=some ([],12)∧¬Good u):=by
 unfold FY Wa;rw [Xi N hN,U.pl];rcases arU U N hN with⟨out,h1,h2⟩ | ⟨h1,h2⟩
 · exact .inl ⟨out,by simp [h1,V9],h2⟩
 · exact .inr ⟨by simp [h1],h2⟩
theorem ar8 {u out}(H:Kk u out)(G:Good u){y:Nat}(hy:y<u.ab.length){n:Int}(D:lL u y n):out[y]? =some n:=by
 have hyl:y<out.length:=by rw [H.1];exact hy
 rw [zab hyl];rcases H.2 y out[y] (zab hyl)with⟨_,h⟩ | ⟨_,_,h⟩
 · exact absurd D (h n)
 · rw [(G y n D).2 _ h]
theorem aHU {u y}(hy:y<u.ab.length)(h:eV u y):(fh u)[y]? =some true:=by
 unfold fh;rw [zaJ,zbf hy];exact zan some (zac h)
theorem aHS {l:ZZD}(h0:0<l.length){z:Int}(hz:0≤z∧z<256):∃k:Nat,k<l.length∧Int.tmod (bN .i64 z) (l.length:Int)=(k:Int):=by
 rw [jv (by omega) (by omega),Int.tmod_eq_emod_of_nonneg hz.1];have h1:=Int.emod_nonneg z (show(l.length:Int)≠0 by omega);have h2:=Int.emod_lt_of_pos z (show 0<(l.length:Int) by omega);obtain⟨k,hk⟩:=zaY h1;exact⟨k,by omega,hk⟩
theorem BP {β}(I:Nat→Int→Option β)(hi:Nat)(P:Nat→Prop)(E:Option β→Prop)(step:∀n (i:Nat),i<hi→E (I (n+1) (i:Int))∨(P i∧I (n+1) (i:Int)=I n (((i+1:Nat)):Int))):∀n (i:Nat),(∀j,j<i→P j)→i≤hi→hi<n+i→E (I n (i:Int))∨((∀j,j<hi→P j)∧∃n',I n (i:Int)=I (n'+1) (hi:Int))
 | 0,i,h,h1,h2=>by omega
 | n+1,i,h,h1,h2=>by
  by_cases e:i<hi
  · rcases step n i e with h3 | ⟨h3,h4⟩
    · exact .inl h3
    · rw [h4]
      exact BP I hi P E step n (i+1) (fun j hj=>by
       by_cases AK:j=i
       · subst AK;exact h3
       · exact h j (by omega)) e (by omega)
  · have:i=hi:=by omega
    subst this;exact .inr ⟨h,n,rfl⟩
theorem aIG {p u i}(hs:p.bw.length<1000000)(hl:u.ab.length≤600)(h:wI p u i=true){x:Int}(hx:jy i=some x):0≤x∧x<(u.ab.length:Int):=by
 have hr:=Xo 0 p u i hs;rw [h,BS]at hr;have hw:bN .i64 ((u.ab.length:Int)-1)=(u.ab.length:Int)-1:=jv (by omega) (by omega)
 have k3:∀x:Int,sJ p u 3 x=some (decide (0≤x∧x≤(u.ab.length:Int)-1)):=fun x=>by
  show((kb x 0 (bN .i64 ((u.ab.length:Int)-1))).bind some)=_;rw [rD,hw];rfl
 unfold jy at hx;have ho:=(Xp hs h).2.2;rw [ho]at hr
 by_cases h24:i.aJ=24
 · rw [if_pos h24]at hx;cases hx;have e:(ez i.aJ).cL.e0=3:=by rw [h24];rfl
   rw [e,k3]at hr
   by_cases hc:0≤i.fA∧i.fA≤(u.ab.length:Int)-1
   · omega
   · rw [zag hc]at hr;cases hr
 · rw [if_neg h24]at hx
   by_cases h2:i.aJ=25∨i.aJ=32
   · rw [if_pos h2]at hx;cases hx;have e:(ez i.aJ).cL.e1=3:=by rcases h2 with h2 | h2<;>rw [h2]<;>rfl
     rw [e,k3]at hr
     by_cases hc:0≤i.fB∧i.fB≤(u.ab.length:Int)-1
     · omega
     · rw [zag hc]at hr;obtain⟨a,_,_,ha,_,_,e'⟩:=ahr i.aJ;obtain⟨b,hb,_⟩:=xW p u a i.fA ha hs;have e'':(ez i.aJ).cL.e0=(a:Int):=by rw [e']
       rw [e'',hb]at hr;cases b<;>cases hr
   · rw [if_neg h2]at hx;cases hx
def zS (p:aO) (u:ae) (x:Int):Prop:=∃c b:Nat,iE p u c x.toNat b∧(b:Int)≠x
theorem aIH {p u hd}(H:Hh p u hd){x:Int}(h1:0≤x)(h2:x<(u.ab.length:Int)):∃b,ix hd x=some b∧(b=x↔¬zS p u x):=by
 obtain⟨m,rfl⟩:=zaY h1;rcases H.2 m (by omega)with⟨c,b,h3,h4⟩ | ⟨h3,h4⟩
 · refine⟨b,h4,fun e ⟨c',b',g,ne⟩=>?_,fun hn=>?_⟩
   · obtain⟨_,rfl⟩:=iE.uniq h3 g;exact ne e
   · exact Classical.byContradiction fun ne=>hn ⟨c,b,h3,ne⟩
 · exact⟨m,h4,fun _ ⟨c',b',g,ne⟩=>h3 c' b' g,fun _=>rfl⟩
theorem asK {p u hd}(H:Hh p u hd)(N:Nat)(y v3 v4:Int):∀(l:List (Int×Int)),(∀x∈l,0≤x.1∧x.1<(u.ab.length:Int))→
 rq (fun(s:Int×Int) (x:Int×Int)=>G2 N hd y s.1 s.2 x.1 x.2 (fun f m0 m1=>some ((m0,m1),f))) l (v3,v4)=if∃x∈l,x.2≠0∧zS p u x.1 then some ((2,y),.ret)else some ((v3,v4),.go)
 | [],_=>by rw [if_neg fun⟨x,hx,_⟩=>by cases hx];rfl
 | x::l,sR=>by
  have ih:=asK H N y v3 v4 l fun z hz=>sR z (zaj _ hz)
  unfold rq;have hx:=sR x zai;obtain⟨b,h1,h2⟩:=aIH H hx.1 hx.2;show((G2 N hd y v3 v4 x.1 x.2 (fun f m0 m1=>some ((m0,m1),f))).bind _)=_;unfold G2
  by_cases h0:x.2=0
  · rw [zac h0];refine Eq.trans ih ?_
    have:(∃z∈x::l,z.2≠0∧zS p u z.1)↔∃z∈l,z.2≠0∧zS p u z.1:=⟨fun⟨z,hz,g⟩=>by
     rcases List.mem_cons.1 hz with rfl | hz
     · exact absurd h0 g.1
     · exact⟨z,hz,g⟩,fun⟨z,hz,g⟩=>⟨z,zaj _ hz,g⟩⟩
    simp only [this]
  · rw [zag h0];show((bif true then((ix hd x.1).bind fun GJ=>bif (!decide (GJ=x.1))then some (((2:Int),y),Fl.ret)else some ((v3,v4),Fl.go))else some ((v3,v4),Fl.go)).bind _)=_;rw [h1]
    by_cases hm:zS p u x.1
    · have hb:¬b=x.1:=fun e=>h2.1 e hm
      show((bif (!decide (b=x.1))then some (((2:Int),y),Fl.ret)else some ((v3,v4),Fl.go)).bind _)=_;rw [zag hb,if_pos ⟨x,zai,h0,hm⟩];rfl
    · have hb:b=x.1:=h2.2 hm;show((bif (!decide (b=x.1))then some (((2:Int),y),Fl.ret)else some ((v3,v4),Fl.go)).bind _)=_;rw [zac hb];refine Eq.trans ih ?_
      have:(∃z∈x::l,z.2≠0∧zS p u z.1)↔∃z∈l,z.2≠0∧zS p u z.1:=⟨fun⟨z,hz,g⟩=>by
       rcases List.mem_cons.1 hz with rfl | hz
       · exact absurd g.2 hm
       · exact⟨z,hz,g⟩,fun⟨z,hz,g⟩=>⟨z,zaj _ hz,g⟩⟩
      simp only [this]
theorem asL {α}(q:Int→α→Bool):∀(l:List α) (y:Int),0≤y→(¬0≤zR q l y↔∀(k:Nat) a,l[k]? =some a→q (y+k) a=false)
 | [],y,hy=>⟨fun _ k a h=>by simp at h,fun _ h=>by have:(0:Int)≤-1:=h;omega⟩
 | b::l,y,hy=>by
  have ih:=asL q l (y+1) (by omega);unfold zR;cases hb:q y b with
  | true=>
   refine⟨fun h=>absurd hy h,fun h=>?_⟩;have:=h 0 b rfl;rw [show y+((0:Nat):Int)=y by omega,hb]at this;cases this
  | false=>
   rw [zak,ih];constructor
   · intro h k a hk;cases k with
     | zero=>cases hk;rw [show y+((0:Nat):Int)=y by omega];exact hb
     | succ k=>rw [show y+((k+1:Nat):Int)=y+1+k by omega];exact h k a hk
   · intro h k a hk;have:=h (k+1) a hk
     rwa [show y+((k+1:Nat):Int)=y+1+k by omega]at this
theorem aII {α:Type}{p:α→Bool}{l:List α}:¬0≤lZ p l 0↔∀a∈l,p a=false:=by
 refine⟨fun h=>aht p l 0 (zbs 0) h,fun h h0=>?_⟩;rcases ahe p l 0 (zbs 0)with e | ⟨k,a,h1,h2,_⟩
 · rw [e]at h0;omega
 · rw [h a (zat h1)]at h2;cases h2
def QO (p:aO) (u:ae):Prop:=∀y i,u.ab[y]? =some i→∀x∈jG u y i,x.2≠0→¬zS p u x.1
def Xt (p:aO) (u:ae):Prop:=∀(y:Nat) i,u.ab[y]? =some i→(i.aJ=20∨i.aJ=22∨i.aJ=19)→∃c b,iE p u c y b
structure rJ (p:aO) (u:ae):Prop extends UnOk p u where
 cls:sQ u.aC=true
 nm:u.ay=⟨⟨[]⟩⟩∨sQ u.ay=true
 sz:Eo u=0
 ends:∃i,u.ab[u.ab.length-1]? =some i∧rE i.aJ=true
 heads:Xt p u
 gd:∀g∈u.aI,oM (u.ab.length:Int) g=false
 mid:QO p u
 good:Good u
theorem asM {p u}(U:UnOk p u)(sz:Eo u=0)(gd:∀g∈u.aI,oM (u.ab.length:Int) g=false):gJ u:=by
 have z:=ahq sz;refine⟨?_⟩;unfold vw;rw [zac (show 1≤(u.ab.length:Int)∧(u.ab.length:Int)≤600 by omega),zag (show¬40<(u.aI.length:Int) by omega),zac (show 0≤u.aE∧u.aE≤200 by omega),zac (show 0≤u.aD∧u.aD≤200 by omega)]
 have h1:u.ab.all (BM (u.ab.length:Int))=true:=List.all_eq_true.2 fun i hi=>by
  have hr:=U.right i hi;unfold BM;rw [(Xp U.len hr).2.2];cases hj:jy i with
  | none=>rfl
  | some x=>
   have:=aIG U.len U.code hr hj;exact zac (show 0≤x∧x≤(u.ab.length:Int)-1 by omega)
 have h2:u.aI.any (oM (u.ab.length:Int))=false:=by
  rw [List.any_eq_false];intro g hg h;rw [gd g hg]at h;cases h
 simp [h1,h2]
theorem asN {p u}:¬0≤Kr p u↔Xt p u:=by
 rw [asL (Hg p u) u.ab 0 (zbs 0)];unfold Xt Hg;constructor
 · intro h y i hi ho;have:=h y i hi;rw [Int.zero_add,zau]at this
   by_cases hc:∃c b,iE p u c y b
   · exact hc
   · rw [zag hc]at this;rcases ho with e | e | e<;>simp [e]at this
 · intro h k a hk;rw [Int.zero_add,zau]
   by_cases ho:a.aJ=20∨a.aJ=22∨a.aJ=19
   · rw [zac (h k a hk ho)];simp
   · have h1:¬a.aJ=20:=fun e=>ho (.inl e)
     have h2:¬a.aJ=22:=fun e=>ho (.inr (.inl e))
     have h3:¬a.aJ=19:=fun e=>ho (.inr (.inr e))
     simp [h1,h2,h3]
theorem aIJ (u:ae)(v11 v3 v4:Int)(hd:ZZD)(hl:u.ab.length≤600)(hg:u.aI.length≤40)(N:Nat)(hN:1000≤N)(hv:v11=(u.ab.length:Int)-1):
 (∃e,G5 N u v11 v3 v4 hd=some (2,e)∧¬∀g∈u.aI,oM (u.ab.length:Int) g=false)∨((∀g∈u.aI,oM (u.ab.length:Int) g=false)∧G5 N u v11 v3 v4 hd=G4 N u hd v3 v4):=by
 unfold G5
 rcases BP (fun n y=>Qh N (u.aI.length:Int) u.aI u v11 hd n v3 v4 y) u.aI.length (fun k=>∀g,u.aI[k]? =some g→oM (u.ab.length:Int) g=false) (fun o=>∃e,o=some (2,e)∧¬∀g∈u.aI,oM (u.ab.length:Int) g=false) (fun n k hk=>by
  have hm:u.aI[k]∈u.aI:=zbl hk;show(∃e,D7 N (u.aI.length:Int) u.aI u v11 v3 v4 hd (k:Int) _=some (2,e)∧_)∨(_∧D7 N (u.aI.length:Int) u.aI u v11 v3 v4 hd (k:Int) _=_);unfold D7 WZ Qe Qd Qc WW Qb;rw [qM k _ hk,gG,zab hk,qN k (by omega)];simp only [zam,zak,zaf,rD];have bad:oM (u.ab.length:Int) u.aI[k]=true→¬∀g∈u.aI,oM (u.ab.length:Int) g=false:=fun h h'=>by rw [h' _ hm]at h;cases h
  have out:∃e,(bif !decide (0≤u.aI[k].dk∧u.aI[k].dk≤v11)then some ((2:Int),(0:Int))else some (2,u.aI[k].dk))=some (2,e):=by
   cases decide (0≤u.aI[k].dk∧u.aI[k].dk≤v11)with
   | true=>exact⟨_,rfl⟩
   | false=>exact⟨_,rfl⟩
  obtain⟨e,he⟩:=out;rw [hv]at he;unfold oM at bad ⊢;rw [hv];cases h1:decide (u.aI[k].dk<0)with
  | true=>exact .inl ⟨e,he,bad (by rw [h1];rfl)⟩
  | false=>cases h2:decide (u.aI[k].dO≤u.aI[k].dk)with
   | true=>exact .inl ⟨e,he,bad (by rw [h1,h2];rfl)⟩
   | false=>cases h3:decide ((u.ab.length:Int)<u.aI[k].dO)with
    | true=>exact .inl ⟨e,he,bad (by rw [h1,h2,h3];rfl)⟩
    | false=>cases h4:decide (0≤u.aI[k].bG∧u.aI[k].bG≤(u.ab.length:Int)-1)with
     | false=>exact .inl ⟨e,he,bad (by rw [h1,h2,h3,h4];rfl)⟩
     | true=>
      refine .inr ⟨fun g hg=>?_,rfl⟩;cases hg;rw [h1,h2,h3,h4];rfl) N 0 (fun j hj=>absurd hj (zbd _)) (zaz _) (by omega)with h | ⟨hP,n',h⟩
 · exact .inl h
 · refine .inr ⟨fun g hg=>?_,?_⟩
   · obtain⟨k,hk,e⟩:=List.mem_iff_getElem.1 hg;exact hP k hk g (by rw [zab hk,e])
   · rw [show((0:Nat):Int)=0 from rfl]at h;refine h.trans ?_;show D7 N (u.aI.length:Int) u.aI u v11 v3 v4 hd _ _=_;unfold D7;rw [qO];rfl
theorem aIK {p u}(U:gJ u)(N:Nat)(hN:1000≤N)(hd:ZZD)(H:Hh p u hd)(v3 v4:Int):
 (∃e,G4 N u hd v3 v4=some (2,e)∧¬QO p u)∨(QO p u∧G4 N u hd v3 v4=Qf N u v3 v4):=by
 have hn:=U.n1;unfold G4
 rcases BP (fun n y=>Qg N (u.ab.length:Int) u hd n v3 v4 y) u.ab.length (fun y=>∀i,u.ab[y]? =some i→∀x∈jG u y i,x.2≠0→¬zS p u x.1) (fun o=>∃e,o=some (2,e)∧¬QO p u) (fun n y hy=>by
  have hu:u.ab[y]? =some u.ab[y]:=zab hy;show(∃e,D6 N (u.ab.length:Int) u hd v3 v4 (y:Int) _=some (2,e)∧_)∨(_∧D6 N (u.ab.length:Int) u hd v3 v4 (y:Int) _=_);unfold D6 W3 W0;rw [qM y _ hy,zam,Xl U N hN y hy,zaf,asK H N (y:Int) v3 v4 _ (fun x hx=>Ej U hu hx),qN y (by omega)]
  by_cases h:∃x∈jG u y u.ab[y],x.2≠0∧zS p u x.1
  · rw [if_pos h];obtain⟨x,h1,h2,h3⟩:=h;exact .inl ⟨(y:Int),rfl,fun M=>M y _ hu x h1 h2 h3⟩
  · rw [if_neg h];refine .inr ⟨fun i hi x hx h2 h3=>?_,rfl⟩;rw [hu]at hi;cases hi;exact h ⟨x,hx,h2,h3⟩) N 0 (fun j hj=>absurd hj (zbd _)) (zaz _) (by omega)with h | ⟨hP,n',h⟩
 · exact .inl h
 · refine .inr ⟨fun y i hi=>hP y (List.getElem?_eq_some_iff.1 hi).1 i hi,?_⟩;rw [show((0:Nat):Int)=0 from rfl]at h;refine h.trans ?_;show D6 N (u.ab.length:Int) u hd v3 v4 _ _=_;unfold D6;rw [qO];rfl
theorem asC {p:aO}(S:SelOk p)(u:ae)(N:Nat)(hN:1000≤N):∃r,IW N p u=some r∧(r.1=0↔rJ p u):=by
 have no:∀{a b:Int},a≠0→¬rJ p u→∃r,some (a,b)=some r∧(r.1=0↔rJ p u):=fun h h'=>⟨_,rfl,fun e=>absurd e h,fun e=>absurd e h'⟩
 have rest:sQ u.aC=true→(u.ay=⟨⟨[]⟩⟩∨sQ u.ay=true)→∃r,Qj N u 0 0 p=some r∧(r.1=0↔rJ p u):=fun c1 c2=>by
  unfold Qj;rw [aIk,zaf]
  by_cases oe:¬Eo u=0
  · rw [zag oe];exact no oe fun R=>oe R.sz
  have hz:Eo u=0:=Classical.not_not.1 oe;rw [zac hz];have z:=ahq hz;have hl:u.ab.length≤600:=by omega
  show∃r,J6 N u p 0 0=some r∧_;rw [aIn N p u 0 0 S.len hl hN]
  by_cases hw:0≤ahs p u
  · rw [zac hw];refine no (by decide) fun R=>?_;exact absurd hw (aII.2 fun i hi=>by rw [R.right i hi];rfl)
  rw [zag hw]
  have U:UnOk p u:=⟨S,hl,by omega,fun i hi=>by
   have:=aht (fun i=> !wI p u i) u.ab 0 (zbs 0) hw i hi;cases h:wI p u i with
   | true=>rfl
   | false=>rw [h]at this;cases this⟩
  show∃r,J5 N u 0 0 p=some r∧_;unfold J5;have hw1:bN .i64 ((u.ab.length:Int)-1)=(u.ab.length:Int)-1:=jv (by omega) (by omega);have ahD:u.ab.length-1<u.ab.length:=by omega
  have hix:ix u.ab ((u.ab.length:Int)-1)=some u.ab[u.ab.length-1]:=by
   rw [show(u.ab.length:Int)-1=((u.ab.length-1:Nat):Int) by omega,gG];exact zab ahD
  rw [hw1,hix,zaf];show∃r,(bif (!rE u.ab[u.ab.length-1].aJ)then _ else _)=some r∧_;cases he:rE u.ab[u.ab.length-1].aJ with
  | false=>
   refine no (by decide) fun R=>?_;obtain⟨i,h1,h2⟩:=R.ends;rw [zab ahD]at h1;cases h1;rw [he]at h2;cases h2
  | true=>
   show∃r,Qi N p u 0 0 ((u.ab.length:Int)-1)=some r∧_;unfold Qi;obtain⟨hd,H,eh⟩:=aIF U N hN;rw [eh,zaf]
   by_cases hb:0≤Kr p u
   · rw [zac hb];exact no (by decide) fun R=>(asN.2 R.heads) hb
   rw [zag hb];show∃r,G5 N u ((u.ab.length:Int)-1) 0 0 hd=some r∧_;rcases aIJ u ((u.ab.length:Int)-1) 0 0 hd hl (by omega) N hN rfl with⟨e,h1,h2⟩ | ⟨hg,h1⟩
   · rw [h1];exact no (by decide) fun R=>h2 R.gd
   · rw [h1];have P:=asM U hz hg;rcases aIK P N hN hd H 0 0 with⟨e,h1,h2⟩ | ⟨hm,h1⟩
     · rw [h1];exact no (by decide) fun R=>h2 R.mid
     · rw [h1];unfold Qf;rcases arU P N hN with⟨out,e1,_,G1⟩ | ⟨e1,n1⟩
       · rw [e1];exact⟨(0,0),rfl,fun _=>⟨U,c1,c2,hz,⟨_,zab ahD,he⟩,asN.1 hb,hg,hm,G1⟩,fun _=>rfl⟩
       · rw [e1];exact no (by decide) fun R=>n1 R.good
 unfold IW J7 BG;simp only [zaf];cases hc:sQ u.aC with
 | false=>exact no (by decide) fun R=>by have:=R.cls;rw [hc]at this;cases this
 | true=>
  by_cases hn:u.ay=(⟨⟨[]⟩⟩:ByteArray)
  · rw [zac hn];exact rest hc (.inl hn)
  · rw [zag hn];cases hv:sQ u.ay with
    | false=>
     refine no (by decide) fun R=>?_;rcases R.nm with h | h
     · exact hn h
     · rw [hv]at h;cases h
    | true=>exact rest hc (.inr hv)
theorem aIL (p:aO)(s:aZ)(c:bD)(e:Int):∃b,Pn p s c e=some b:=by
 unfold Pn Wt Pm
 by_cases h1:e= -1
 · rw [zac h1];exact⟨_,rfl⟩
 rw [zag h1]
 by_cases h0:0≤e
 · rw [zac h0]
   by_cases h2:e<(p.bp.length:Int)
   · obtain⟨x,hx⟩:=BL h0 h2;rw [zac h2,hx];exact⟨_,rfl⟩
   · rw [zag h2];exact⟨_,rfl⟩
 · rw [zag h0];cases decide (bN .i64 (-2-e)<(s.kV.length:Int))<;>cases decide (c.fArgs=0)<;>exact⟨_,rfl⟩
theorem aIM (N:Nat)(l:List aZ)(f:aZ→Option Bool)(p:aZ→Bool)(hf:∀a,f a=some (p a))(hl:l.length<1000000)(hN:l.length<N):PW N l f=some (lZ p l 0):=by
 unfold PW;rw [←QG]
 exact Hc l (fun n y=>J0 N (l.length:Int) l f n y) _ _ hl (fun n y a hy ha=>by
  show(bif decide (y<(l.length:Int))then((ix l y).bind fun gi=>(f gi).bind fun mn=>bif mn then some y else J0 N (l.length:Int) l f n (bN .i64 (y+1)))else some (-1))=_;rw [zac hy,ha];show((f a).bind _)=_;rw [hf];cases p a<;>rfl) (fun n=>by
  show(bif decide ((l.length:Int)<(l.length:Int))then _ else some (-1))=_;rw [zag (zby _)];rfl) N 0 (zaz _) (by omega)
theorem aIN {p s}(N:Nat)(hN:1000≤N)(ht:s.gh.length=p.bw.length)(hs:p.bw.length≤400):∃e,P7 N s p=some e:=by
 unfold P7
 rcases BP (fun n y=>P6 N (s.gh.length:Int) s.gh p s n y) s.gh.length (fun _=>True) (fun o=>∃e,o=some e) (fun n k hk=>by
  show(∃e,D4 N (s.gh.length:Int) s.gh p s (k:Int) _=some e)∨(_∧D4 N (s.gh.length:Int) s.gh p s (k:Int) _=_);unfold D4 WT WS;obtain⟨b,hb⟩:=aIL p s p.bw[k] s.gh[k];rw [qM k _ hk,gG,zab hk,gG,zab (show k<p.bw.length by omega),qN k (by omega)];simp only [zam,zaf,hb];cases b with
  | true=>exact .inr ⟨trivial,rfl⟩
  | false=>exact .inl ⟨2,rfl⟩) N 0 (fun _ _=>trivial) (zaz _) (by omega)with h | ⟨_,n',h⟩
 · exact h
 · rw [show((0:Nat):Int)=0 from rfl]at h;refine⟨0,h.trans ?_⟩;show D4 N (s.gh.length:Int) s.gh p s _ _=_;unfold D4;rw [qO];rfl
theorem aIO {p}(N:Nat)(hN:1000≤N){k:Nat}{s:aZ}(hk:p.bE[k]? =some s)(h1:p.bE.length≤60)(h2:p.bw.length≤400)(h3:p.bp.length≤400):∃e,P8 N p (k:Int)=some e∧(e=0→s.gh.length=p.bw.length):=by
 have Fa:=(List.getElem?_eq_some_iff.1 hk).1;have no:∀{e:Int},e≠0→∃e',some e=some e'∧(e'=0→s.gh.length=p.bw.length):=fun h=>⟨_,rfl,fun e=>absurd e h⟩
 unfold P8 BG;rw [gG,hk,zaf,zaf];cases sQ s.ay with
 | false=>exact no (by decide)
 | true=>
  have es:vm p.bE 0 (k:Int)=some (p.bE.take k):=by
   unfold vm;rw [zac (show(0:Int)≤0 by omega),zac (show(0:Int)≤(k:Int) by omega),zac (show(k:Int)≤(p.bE.length:Int) by omega)];simp [gu]
  have cy:(p.bE.take k).length≤60:=by rw [za3];omega
  rw [es];simp only [zaf,zas,zak];unfold WQ;rw [aIM N (p.bE.take k) (fun a0=>PZ a0 s) (fun a=>decide (a.ay=s.ay)) (fun a=>rfl) (by omega) (by omega),zaf,zaf]
  by_cases hc:0≤lZ (fun a:aZ=>decide (a.ay=s.ay)) (p.bE.take k) 0
  · rw [zac hc];exact no (by decide)
  rw [zag hc,zak]
  by_cases hf:60<(s.kV.length:Int)
  · rw [zac hf];exact no (by decide)
  rw [zag hf,zak];unfold WU Gj;rw [arO N s.kV _ (fun a=> !decide (1≤a∧a≤3)) (fun a=>by unfold PY;rw [rD];rfl) (by omega) (by omega),zaf,zaf]
  have P2:∀b:Bool,(b=false→s.gh.length=p.bw.length)→∃e',J4 N s p b=some e'∧(e'=0→s.gh.length=p.bw.length):=fun b hb=>by
   have P1:∀c:Bool,(c=false→s.gh.length=p.bw.length)→∃e',D5 N s p c=some e'∧(e'=0→s.gh.length=p.bw.length):=fun c hc=>by
    unfold D5;cases c with
    | true=>exact no (by decide)
    | false=>
     obtain⟨e,he⟩:=aIN (p:=p) (s:=s) N hN (hc rfl) h2;exact⟨e,he,fun _=>hc rfl⟩
   unfold J4;cases b with
   | true=>exact P1 true fun h=>by cases h
   | false=>
    have ht:=hb rfl;rw [rD,jv (by omega) (by omega)];simp only [zak,zaf]
    by_cases hi:s.kW= -1
    · rw [zac hi];exact P1 false fun _=>ht
    · rw [zag hi]
      by_cases hr:0≤s.kW∧s.kW≤(p.bp.length:Int)-1
      · obtain⟨x,hx⟩:=BL (l:=p.bp) hr.1 (by omega);rw [zac hr,hx];exact P1 _ fun _=>ht
      · rw [zag hr];exact P1 true fun h=>by cases h
  cases decide (0≤lZ (fun a=> !decide (1≤a∧a≤3)) s.kV 0)with
  | true=>exact P2 true fun h=>by cases h
  | false=>
   exact P2 _ fun h=>by
    have:=zao (show decide ((s.gh.length:Int)=(p.bw.length:Int))=true by
     cases hh:decide ((s.gh.length:Int)=(p.bw.length:Int))with
     | true=>rfl
     | false=>rw [hh]at h;cases h)
    omega
theorem aIA (N:Nat)(hN:1000≤N)(p:aO):∃r,Nj N p=some r∧(r.1=0→0<p.bp.length∧p.bp.length≤400∧∀u∈p.bp,rJ p u):=by
 have no:∀{e:Int}{s:bB},e≠0→∃r,some (e,s)=some r∧(r.1=0→0<p.bp.length∧p.bp.length≤400∧∀u∈p.bp,rJ p u):=fun h=>⟨_,rfl,fun e=>absurd e h⟩
 unfold Nj Qv Qu
 by_cases h1:60<(p.bE.length:Int)
 · rw [zac h1];exact no (by decide)
 rw [zag h1]
 by_cases h2:400<(p.bw.length:Int)
 · rw [zac h2];exact no (by decide)
 rw [zag h2]
 by_cases h3:400<(p.bp.length:Int)
 · rw [zac h3];exact no (by decide)
 rw [zag h3];simp only [zak];unfold Xd Qt
 by_cases h4:(p.bE.length:Int)=0
 · rw [zac h4];exact no (by decide)
 rw [zag h4]
 by_cases h5:(p.bp.length:Int)=0
 · rw [zac h5];exact no (by decide)
 rw [zag h5];simp only [zak];unfold Xc;generalize bB.mk (-1) 0=v4;generalize bB.mk 0 0=v2
 rcases BP (fun n y=>Ke N (p.bw.length:Int) p.bw v2 p v4 n y) p.bw.length (fun k=>∀s,p.bw[k]? =some s→0≤s.fArgs∧s.fArgs≤16) (fun o=>∃r,o=some r∧(r.1=0→0<p.bp.length∧p.bp.length≤400∧∀u∈p.bp,rJ p u)) (fun n k hk=>by
  show(∃r,Ec N (p.bw.length:Int) p.bw v2 p v4 (k:Int) _=some r∧_)∨(_∧Ec N (p.bw.length:Int) p.bw v2 p v4 (k:Int) _=_);unfold Ec W6 Qm W5 W4 BG;have Eg:p.bw[k]? =some p.bw[k]:=zab hk;rw [qM k _ hk,gG,Eg,qN k (by omega)];simp only [zam,zak,zaf,rD];generalize p.bw[k]=s;cases sQ s.aC with
  | false=>exact .inl (no (by decide))
  | true=>cases sQ s.ay with
   | false=>exact .inl (no (by decide))
   | true=>
    by_cases ha:0≤s.fArgs∧s.fArgs≤16
    · rw [zac ha];exact .inr ⟨fun s' hs=>(by cases hs;exact ha),rfl⟩
    · rw [zag ha];exact .inl (no (by decide))) N 0 (fun j hj=>absurd hj (zbd _)) (zaz _) (by omega)with h | ⟨hS,n1,h⟩
 · exact h
 rw [show((0:Nat):Int)=0 from rfl]at h
 have S:SelOk p:=⟨by omega,fun s hs=>by
  obtain⟨k,hk,e⟩:=List.mem_iff_getElem.1 hs;have:=hS k hk s (by rw [zab hk,e]);omega⟩
 have e1:Ke N (p.bw.length:Int) p.bw v2 p v4 (n1+1) (p.bw.length:Int)=Qs N p v2 v4:=by
  show Ec N (p.bw.length:Int) p.bw v2 p v4 _ _=_;unfold Ec;rw [qO];rfl
 rw [h,e1]
 clear h e1
 unfold Qs
 rcases BP (fun n y=>Kd N (p.bE.length:Int) p v2 v4 n y) p.bE.length (fun k=>∀s,p.bE[k]? =some s→s.gh.length=p.bw.length) (fun o=>∃r,o=some r∧(r.1=0→0<p.bp.length∧p.bp.length≤400∧∀u∈p.bp,rJ p u)) (fun n k hk=>by
  show(∃r,Eb N (p.bE.length:Int) p v2 v4 (k:Int) _=some r∧_)∨(_∧Eb N (p.bE.length:Int) p v2 v4 (k:Int) _=_);unfold Eb W8 W7;have Eg:p.bE[k]? =some p.bE[k]:=zab hk;obtain⟨e,h6,h7⟩:=aIO (p:=p) N hN Eg (by omega) (by omega) (by omega);rw [qM k _ hk,h6,zaf,qN k (by omega)];simp only [zam]
  by_cases he:e=0
  · rw [zac he];exact .inr ⟨fun s hs=>by rw [Eg]at hs;cases hs;exact h7 he,rfl⟩
  · rw [zag he];exact .inl (no he)) N 0 (fun j hj=>absurd hj (zbd _)) (zaz _) (by omega)with h | ⟨hT,n2,h⟩
 · exact h
 rw [show((0:Nat):Int)=0 from rfl]at h
 have e2:Kd N (p.bE.length:Int) p v2 v4 (n2+1) (p.bE.length:Int)=Qr N p v2 v4:=by
  show Eb N (p.bE.length:Int) p v2 v4 _ _=_;unfold Eb;rw [qO];rfl
 rw [h,e2]
 clear h e2
 unfold Qr
 rcases BP (fun n y=>Kc N (p.bp.length:Int) p.bp p v2 v4 n y) p.bp.length (fun k=>∀u,p.bp[k]? =some u→rJ p u) (fun o=>∃r,o=some r∧(r.1=0→0<p.bp.length∧p.bp.length≤400∧∀u∈p.bp,rJ p u)) (fun n k hk=>by
  show(∃r,Ea N (p.bp.length:Int) p.bp p v2 v4 (k:Int) _=some r∧_)∨(_∧Ea N (p.bp.length:Int) p.bp p v2 v4 (k:Int) _=_);unfold Ea Xa W9;have Eg:p.bp[k]? =some p.bp[k]:=zab hk;obtain⟨r,h6,h7⟩:=asC S p.bp[k] N hN;rw [qM k _ hk,gG,Eg,zaf,h6,zaf,qN k (by omega)];simp only [zam]
  by_cases he:r.1=0
  · rw [zac he];exact .inr ⟨fun u hu=>by cases hu;exact h7.1 he,rfl⟩
  · rw [zag he];exact .inl (no he)) N 0 (fun j hj=>absurd hj (zbd _)) (zaz _) (by omega)with h | ⟨hU,n3,h⟩
 · exact h
 rw [show((0:Nat):Int)=0 from rfl]at h
 have e3:Kc N (p.bp.length:Int) p.bp p v2 v4 (n3+1) (p.bp.length:Int)=Qq N p v4 v2:=by
  show Ea N (p.bp.length:Int) p.bp p v2 v4 _ _=_;unfold Ea;rw [qO];rfl
 rw [h,e3]
 clear h e3
 have all:0<p.bp.length∧p.bp.length≤400∧∀u∈p.bp,rJ p u:=⟨by omega,by omega,fun u hu=>by
  obtain⟨k,hk,e⟩:=List.mem_iff_getElem.1 hu;exact hU k hk u (by rw [zab hk,e])⟩
 have yes:∀{o:Option (Int×bB)},(∃r,o=some r)→∃r,o=some r∧(r.1=0→0<p.bp.length∧p.bp.length≤400∧∀u∈p.bp,rJ p u):=fun⟨r,h⟩=>⟨r,h,fun _=>all⟩
 apply yes;unfold Qq Qp Qo Qn Xb;rw [rD,rD,jv (by omega) (by omega),jv (by omega) (by omega)];simp only [zaf]
 by_cases m1:0≤p.bo∧p.bo≤(p.bE.length:Int)-1
 · rw [zac m1]
   by_cases m2:0≤p.bn∧p.bn≤(p.bw.length:Int)-1
   · rw [zac m2];obtain⟨c,hc⟩:=BL (l:=p.bw) m2.1 (by omega);obtain⟨s,hs⟩:=BL (l:=p.bE) m1.1 (by omega)
     have ht:s.gh.length=p.bw.length:=by
      obtain⟨k,_,hk,h9⟩:=Bf hs;exact hT k hk s h9
     obtain⟨x,hx⟩:=BL (l:=s.gh) m2.1 (by omega);rw [hc,hs];simp only [zas,zak,zaf,hx];unfold WO;simp only [zaf];generalize (!(_ != false))=b;cases b with
     | true=>exact⟨_,rfl⟩
     | false=>cases decide (x<0)<;>exact⟨_,rfl⟩
   · rw [zag m2];exact⟨_,rfl⟩
 · rw [zag m1];exact⟨_,rfl⟩
structure oN (p:aO) (u:ae):Prop where
 rt:rJ p u
 last:eV u (u.ab.length-1)
theorem rJ.oO {p u}(H:rJ p u):gJ u:=asM H.toUnOk H.sz H.gd
section
variable {p:aO}{u:ae}
theorem ahA:(fh u).length=u.ab.length:=by unfold fh;simp
theorem eV.lt (U:gJ u){j:Nat}(h:eV u j):j<u.ab.length:=by
 have hn:=U.n1;cases h with
 | zero=>omega
 | step h hi hb=>have:=aH9 U hi hb;omega
theorem eV.lead (U:gJ u){j:Nat}(h:eV u j){i:ah}(hi:u.ab[j]? =some i){x:Int×Int}(hx:x∈jG u j i):eV u x.1.toNat:=by
 have h1:=Ej U hi hx;refine .step h hi (En.2 ⟨x.2,?_⟩);rw [zbw h1.1];exact hx
abbrev kp (u:ae) (j:Nat):Nat:=l4 (fh u) j
abbrev cu (u:ae):ae:=Em u (fh u)
theorem ahE {j}(hj:j<u.ab.length):kp u (j+1)=kp u j+(if eV u j then 1 else 0):=by
 have hl:j<(fh u).length:=by rw [ahA];exact hj
 have e:(fh u)[j]? =some (decide (eV u j)):=by
  unfold fh;rw [zaJ,zbf hj];rfl
 rw [show kp u (j+1)=_ from ar9 _ j _ e]
 by_cases h:eV u j
 · rw [zac h];simp [h]
 · rw [zag h];simp [h]
theorem Xq (U:gJ u){j:Nat}(h:eV u j):kp u (j+1)=kp u j+1:=by rw [ahE (h.lt U),if_pos h]
theorem Er {i j}(h:i≤j):kp u i≤kp u j:=aHV _ h
theorem zQ (U:gJ u){i j:Nat}(hi:eV u i)(h:i<j):kp u i<kp u j:=by
 have:=Xq U hi;have:=Er (u:=u) (show i+1≤j from h);omega
theorem Xv (U:gJ u){i j:Nat}(hi:eV u i)(hj:eV u j)(h:kp u i=kp u j):i=j:=by
 rcases Nat.lt_trichotomy i j with h1 | h1 | h1
 · have:=zQ U hi h1;omega
 · exact h1
 · have:=zQ U hj h1;omega
theorem QR:kp u 0=0:=by simp [kp,l4]
theorem asO (m:Nat):∀n,n≤u.ab.length→m<kp u n→∃j,j<n∧eV u j∧kp u j=m
 | 0,_,h=>by rw [QR]at h;omega
 | n+1,hn,h=>by
  rw [ahE (by omega)]at h
  by_cases hm:m<kp u n
  · obtain⟨j,h1,h2⟩:=asO m n (by omega) hm;exact⟨j,by omega,h2⟩
  · by_cases hr:eV u n
    · rw [if_pos hr]at h;exact⟨n,zax _,hr,by omega⟩
    · rw [if_neg hr]at h;omega
abbrev mv (u:ae) (x:ah):ah:=uD (dU (fh u) u.ab.length) x
theorem ahF (A:ZZD):∀n,n≤u.ab.length→(vx A u.ab (fh u) n).length=kp u n∧∀j x,j<n→eV u j→u.ab[j]? =some x→(vx A u.ab (fh u) n)[kp u j]? =some (uD A x)
 | 0,_=>⟨by rw [QR];rfl,fun j x h=>by omega⟩
 | n+1,hn=>by
  obtain⟨h1,h2⟩:=ahF A n (by omega)
  have hk:(fh u)[n]? =some (decide (eV u n)):=by
   unfold fh;rw [zaJ,zbf (by omega)];rfl
  have hx:u.ab[n]? =some u.ab[n]:=zab (by omega);rw [ahm A u.ab (fh u) n hk hx,ahE (by omega)]
  by_cases hr:eV u n
  · rw [zac hr,if_pos rfl,if_pos hr];refine⟨by rw [zaG,h1];rfl,fun j x hj Xw QS=>?_⟩
    by_cases e:j=n
    · subst e;rw [hx]at QS;cases QS;rw [zaB (by omega),h1,Nat.sub_self];rfl
    · have h3:=h2 j x (by omega) Xw QS;rw [zaC (List.getElem?_eq_some_iff.1 h3).1];exact h3
  · rw [zag hr,if_neg (by simp),if_neg hr,Nat.add_zero];refine⟨h1,fun j x hj Xw QS=>h2 j x ?_ Xw QS⟩
    by_cases e:j=n
    · subst e;exact absurd Xw hr
    · omega
theorem QM:(cu u).ab.length=kp u u.ab.length:=(ahF _ u.ab.length (zad _)).1
theorem BU (U:gJ u){j:Nat}{x:ah}(hr:eV u j)(hx:u.ab[j]? =some x):(cu u).ab[kp u j]? =some (mv u x):=(ahF _ u.ab.length (zad _)).2 j x (hr.lt U) hr hx
theorem He (U:gJ u){m:Nat}{y:ah}(h:(cu u).ab[m]? =some y):∃j x,eV u j∧kp u j=m∧u.ab[j]? =some x∧y=mv u x:=by
 have hm:=(List.getElem?_eq_some_iff.1 h).1;rw [QM]at hm;obtain⟨j,h1,h2,h3⟩:=asO m u.ab.length (zad _) hm;have hx:u.ab[j]? =some u.ab[j]:=zab h1;refine⟨j,_,h2,h3,hx,?_⟩;rw [←h3,BU U h2 hx]at h;exact(zaL h).symm
theorem xX (A:ZZD)(x:ah):(uD A x).aJ=x.aJ:=by
 unfold uD;split
 · rfl
 · split<;>rfl
theorem aIP (U:gJ u){j:Nat}{x:ah}(hx:u.ab[j]? =some x):jy (mv u x)=(jy x).map fun t=>((kp u t.toNat:Nat):Int):=by
 have ho:=xX (dU (fh u) u.ab.length) x;unfold jy;rw [ho];unfold mv uD
 by_cases h1:x.aJ=24
 · have:=U.jmp hx (p:=x.fA) (by unfold jy;rw [if_pos h1]);rw [if_pos h1,if_pos h1,if_pos h1,zP _ _ _ (by omega)];rfl
 · rw [if_neg h1,if_neg h1,if_neg h1]
   by_cases h2:x.aJ=25∨x.aJ=32
   · have:=U.jmp hx (p:=x.fB) (by unfold jy;rw [if_neg h1,if_pos h2]);rw [if_pos h2,if_pos h2,if_pos h2,zP _ _ _ (by omega)];rfl
   · rw [if_neg h2,if_neg h2];rfl
theorem QN {x}(h:x.aJ≠24∧x.aJ≠25∧x.aJ≠32):mv u x=x:=by
 unfold mv uD;rw [if_neg h.1,if_neg fun e=>e.elim h.2.1 h.2.2]
theorem aIQ (l:List al)(y:Int):(if 0≤pE l y then ix l (pE l y)else none)=l.find? fun d=>decide (d.dk≤y∧y<d.dO):=by
 have key:∀(l:List al) (k:Int),0≤k→(lZ (fun d:al=>decide (d.dk≤y∧y<d.dO)) l k= -1∧l.find? (fun d=>decide (d.dk≤y∧y<d.dO))=none)∨(∃(n:Nat) (d:al),lZ (fun d:al=>decide (d.dk≤y∧y<d.dO)) l k=k+n∧l[n]? =some d∧l.find? (fun d=>decide (d.dk≤y∧y<d.dO))=some d):=by
  intro l
  induction l with
  | nil=>intro k hk;exact .inl ⟨rfl,rfl⟩
  | cons a l ih=>
   intro k hk;unfold lZ;rw [List.find?_cons];cases ha:decide (a.dk≤y∧y<a.dO)with
   | true=>exact .inr ⟨0,a,by simp,rfl,rfl⟩
   | false=>
    rcases ih (k+1) (by omega)with⟨h1,h2⟩ | ⟨n,d,h1,h2,h3⟩
    · exact .inl ⟨h1,h2⟩
    · exact .inr ⟨n+1,d,by rw [zak,h1];omega,h2,h3⟩
 unfold pE;rcases key l 0 (zbs 0)with⟨h1,h2⟩ | ⟨n,d,h1,h2,h3⟩
 · rw [h1,h2,if_neg (by omega)]
 · rw [h1,h3,if_pos (by omega),Int.zero_add,gG];exact h2
def Es (u:ae) (y:Nat):Option al:=u.aI.find? fun d=>decide (d.dk≤(y:Int)∧(y:Int)<d.dO)
theorem asP (u:ae)(y:Nat)(i:ah):jG u y i=(if rE i.aJ=false∧y+1<u.ab.length then [((y:Int)+1,0)]else [])++((jy i).toList.map fun x=>(x,1))++(if rF i=true then(Es u y).toList.map (fun d=>(d.bG,2))else []):=by
 unfold jG
 congr 1
 unfold Es;rw [←aIQ]
 by_cases h1:rF i=true<;>by_cases h2:0≤pE u.aI y<;>simp [h1,h2]
theorem asQ {α β}(f:α→Option β)(q:α→Bool)(r:β→Bool):∀l:List α,(∀a∈l,match f a with | some b=>r b=q a | none=>q a=false)→(l.filterMap f).find? r=(l.find? q).bind f
 | [],_=>rfl
 | a::l,h=>by
  have ih:=asQ f q r l fun b hb=>h b (zaj _ hb)
  have ha:=h a zai;rw [List.filterMap_cons,List.find?_cons];cases hf:f a with
  | none=>
   rw [hf]at ha;simp only at ha;rw [ha];exact ih
  | some b=>
   rw [hf]at ha;simp only at ha;simp only;rw [List.find?_cons,ha];cases hq:q a with
   | true=>exact hf.symm
   | false=>exact ih
def Hf (u:ae) (g:al):Option al:=if (qP (dU (fh u) (u.ab.length+1)) g).dk<(qP (dU (fh u) (u.ab.length+1)) g).dO then some (qP (dU (fh u) (u.ab.length+1)) g)else none
theorem aIR {α β}(f:α→Option β):∀(l:List α),(List.range l.length).filterMap (fun j=>match l[j]? with | some g=>f g | none=>none)=l.filterMap f:=by
 intro l
 induction l with
 | nil=>rfl
 | cons a l ih=>
  rw [zaE,List.range_succ_eq_map,List.filterMap_cons,List.filterMap_map,List.filterMap_cons];have e:(List.range l.length).filterMap ((fun j=>match (a::l)[j]? with | some g=>f g | none=>none)∘Nat.succ)=l.filterMap f:=ih;rw [e];rfl
theorem ahy:(cu u).aI=u.aI.filterMap (Hf u):=by
 show vy _ u.aI u.aI.length=_;unfold vy;rw [←aIR (Hf u) u.aI]
 congr 1
 funext j
 cases u.aI[j]? with
 | none=>rfl
 | some g=>rfl
theorem ahz (U:gJ u){g:al}(hg:g∈u.aI):qP (dU (fh u) (u.ab.length+1)) g=⟨((kp u g.dk.toNat:Nat):Int),((kp u g.dO.toNat:Nat):Int),((kp u g.bG.toNat:Nat):Int)⟩:=by
 obtain⟨k,hk⟩:=zaV hg;have:=U.BR hk;unfold qP;rw [zP _ _ _ (by omega),zP _ _ _ (by omega),zP _ _ _ (by omega)]
theorem aIS (U:gJ u){j:Nat}(hr:eV u j):Es (cu u) (kp u j)=(Es u j).map fun d=>⟨((kp u d.dk.toNat:Nat):Int),((kp u d.dO.toNat:Nat):Int),((kp u d.bG.toNat:Nat):Int)⟩:=by
 unfold Es
 rw [ahy,asQ (Hf u) (fun d=>decide (d.dk≤(j:Int)∧(j:Int)<d.dO)) _ u.aI (fun g hg=>by
  obtain⟨k,hk⟩:=zaV hg;have hb:=U.BR hk;obtain⟨a,ha⟩:=zaY hb.1;obtain⟨b,dN⟩:=zaY (show 0≤g.dO by omega)
  have e:decide (g.dk≤(j:Int)∧(j:Int)<g.dO)=decide (((kp u a:Nat):Int)≤((kp u j:Nat):Int)∧((kp u j:Nat):Int)<((kp u b:Nat):Int)):=by
   rw [zbz,ha,dN];constructor
   · rintro⟨h1,h2⟩;have:=Er (u:=u) (show a≤j by omega);have:=zQ U hr (show j<b by omega);omega
   · rintro⟨h1,h2⟩;constructor
     · by_cases h:a≤j
       · omega
       · have:=zQ U hr (show j<a by omega);omega
     · by_cases h:j<b
       · omega
       · have:=Er (u:=u) (show b≤j by omega);omega
  unfold Hf;rw [ahz U hg,ha,dN];simp only [zau]
  by_cases cy:((kp u a:Nat):Int)<((kp u b:Nat):Int)
  · rw [if_pos cy];simp only;rw [ha,dN]at e;exact e.symm
  · rw [if_neg cy];simp only;rw [ha,dN]at e;rw [e];exact zag fun h=>by omega)]
 cases hf:u.aI.find? fun d=>decide (d.dk≤(j:Int)∧(j:Int)<d.dO)with
 | none=>rfl
 | some d=>
  have hd:=List.mem_of_find?_eq_some hf;have hc:=List.find?_some hf;have hc:=zao hc;obtain⟨k,hk⟩:=zaV hd;have hb:=U.BR hk;show Hf u d=some _;unfold Hf;rw [ahz U hd,if_pos ?_];have h1:=Er (u:=u) (show d.dk.toNat≤j by omega);have h2:=zQ U hr (show j<d.dO.toNat by omega);show((kp u d.dk.toNat:Nat):Int)<((kp u d.dO.toNat:Nat):Int);omega
end
section
variable {p:aO}{u:ae}
def sT (u:ae) (q:Int×Int):Int×Int:=(((kp u q.1.toNat:Nat):Int),q.2)
theorem aIT (D:oN p u){j:Nat}(hr:eV u j){x:ah}(hx:u.ab[j]? =some x):jG (cu u) (kp u j) (mv u x)=(jG u j x).map (sT u):=by
 have U:=D.rt.oO;have hn:=U.n1;have ho:=xX (dU (fh u) u.ab.length) x;rw [asP,asP,List.map_append,List.map_append]
 have e1:(if rE (mv u x).aJ=false∧kp u j+1<(cu u).ab.length then [(((kp u j:Nat):Int)+1,(0:Int))]else [])=(if rE x.aJ=false∧j+1<u.ab.length then [((j:Int)+1,(0:Int))]else []).map (sT u):=by
  rw [show(mv u x).aJ=x.aJ from ho,QM]
  by_cases he:rE x.aJ=false
  · have hj:=hr.lt U
    have AL:j+1<u.ab.length:=by
     by_cases h:j+1<u.ab.length
     · exact h
     · obtain⟨i,h1,h2⟩:=D.rt.ends;rw [show u.ab.length-1=j by omega,hx]at h1;cases h1;rw [he]at h2;cases h2
    have Cj:eV u (j+1):=by
     have:=hr.lead U hx (x:=((j:Int)+1,0)) (Xj.2 (.inl ⟨he,AL,rfl,rfl⟩))
     rwa [show((j:Int)+1,(0:Int)).1.toNat=j+1 by show((j:Int)+1).toNat=_;omega]at this
    have h1:=Xq U hr;have h2:=zQ U Cj AL;rw [if_pos ⟨he,by omega⟩,if_pos ⟨he,AL⟩];show _=[sT u ((j:Int)+1,0)];unfold sT;rw [show((j:Int)+1,(0:Int)).1.toNat=j+1 by show((j:Int)+1).toNat=_;omega,h1];rfl
  · rw [if_neg fun h=>he h.1,if_neg fun h=>he h.1];rfl
 have e2:((jy (mv u x)).toList.map fun x=>(x,(1:Int)))=((jy x).toList.map fun x=>(x,(1:Int))).map (sT u):=by
  rw [aIP U hx];cases jy x<;>rfl
 have e3:(if rF (mv u x)=true then(Es (cu u) (kp u j)).toList.map (fun d=>(d.bG,(2:Int)))else [])=(if rF x=true then(Es u j).toList.map (fun d=>(d.bG,(2:Int)))else []).map (sT u):=by
  have er:rF (mv u x)=rF x:=by unfold rF;rw [show(mv u x).aJ=x.aJ from ho]
  rw [er,aIS U hr]
  by_cases h:rF x=true
  · rw [if_pos h,if_pos h];cases Es u j<;>rfl
  · rw [if_neg h,if_neg h];rfl
 rw [e1,e2,e3]
theorem Kq (D:oN p u){j:Nat}(hr:eV u j){x:ah}(hx:u.ab[j]? =some x){q:Int×Int}:q∈jG (cu u) (kp u j) (mv u x)↔∃z∈jG u j x,sT u z=q:=by
 rw [aIT D hr hx,zaM]
theorem aIz (D:oN p u){j:Nat}(h:eV u j):eV (cu u) (kp u j):=by
 have U:=D.rt.oO
 induction h with
 | zero=>rw [QR];exact .zero
 | @step a b i h hi hb ih=>
  refine .step ih (BU U h hi) ?_;obtain⟨k,hk⟩:=En.1 hb;refine En.2 ⟨k,(Kq D h hi).2 ⟨_,hk,?_⟩⟩;unfold sT;rw [zau]
theorem lL.rch (U:gJ u){j:Nat}{d:Int}(h:lL u j d):eV u j:=by
 induction h with
 | start=>exact .zero
 | step y d i x H hi hx ih=>exact ih.lead U hi hx
theorem eV.dep (U:gJ u){j:Nat}(h:eV u j):∃d,lL u j d:=by
 induction h with
 | zero=>exact⟨0,.start⟩
 | @step a b i h hi hb ih=>
  obtain⟨d,hd⟩:=ih;obtain⟨k,hk⟩:=En.1 hb;have:=lL.step a d i _ hd hi hk;rw [show((b:Int),k).1.toNat=b from zau b]at this;exact⟨_,this⟩
theorem aIy (D:oN p u){j:Nat}{d:Int}(h:lL u j d):lL (cu u) (kp u j) d:=by
 have U:=D.rt.oO
 induction h with
 | start=>rw [QR];exact .start
 | step y d i x H hi hx ih=>
  have hr:=H.rch U;have:=lL.step _ d _ _ ih (BU U hr hi) ((Kq D hr hi).2 ⟨x,hx,rfl⟩);unfold sT at this;rw [show(mv u i).aJ=i.aJ from xX _ _]at this;simp only [zau]at this;exact this
theorem asR (D:oN p u){m:Nat}{d:Int}(h:lL (cu u) m d):∃j,eV u j∧kp u j=m∧lL u j d:=by
 have U:=D.rt.oO
 induction h with
 | start=>exact⟨0,.zero,QR,.start⟩
 | step y d i x H hi hx ih=>
  obtain⟨j,h1,h2,h3⟩:=ih;subst h2;obtain⟨j',i',g1,g2,g3,g4⟩:=He U hi;have:=Xv U g1 h1 g2;subst this;subst g4;obtain⟨z,hz,rfl⟩:=(Kq D h1 g3).1 hx;refine⟨z.1.toNat,h1.lead U g3 hz,?_,?_⟩
  · unfold sT;rw [zau]
  · have:=lL.step _ d _ z h3 g3 hz;rw [show(mv u i').aJ=i'.aJ from xX _ _];exact this
theorem asA (D:oN p u):Good (cu u):=fun m d h=>by
 have U:=D.rt.oO;obtain⟨j,h1,h2,h3⟩:=asR D h;refine⟨(D.rt.good j d h3).1,fun d' h'=>?_⟩;obtain⟨j',g1,g2,g3⟩:=asR D h';have:=Xv U g1 h1 (g2.trans h2.symm);subst this;exact(D.rt.good _ d h3).2 _ g3
theorem Xx (x:ah):pF (mv u x)=pF x∧BO (mv u x)=BO x:=by
 by_cases h:x.aJ≠24∧x.aJ≠25∧x.aJ≠32
 · rw [QN h];exact⟨rfl,rfl⟩
 · have hc:x.aJ=24∨x.aJ=25∨x.aJ=32:=by omega
   have ho:=xX (dU (fh u) u.ab.length) x;unfold pF BO;rw [show(mv u x).aJ=x.aJ from ho];rcases hc with h | h | h
   · have e:(ez x.aJ).dF=⟨0,0⟩∧(ez x.aJ).jx=0:=by rw [h];exact⟨rfl,rfl⟩
     rw [e.1,e.2];exact⟨rfl,rfl⟩
   · have e:(ez x.aJ).dF=⟨1,0⟩∧(ez x.aJ).jx=0:=by rw [h];exact⟨rfl,rfl⟩
     have ea:(mv u x).fA=x.fA:=by unfold mv uD;rw [if_neg (by omega),if_pos (Or.inl h)]
     rw [e.1,e.2];unfold rG;simp only [if_pos,ea];exact⟨rfl,trivial⟩
   · have e:(ez x.aJ).dF=⟨1,0⟩∧(ez x.aJ).jx=0:=by rw [h];exact⟨rfl,rfl⟩
     have ea:(mv u x).fA=x.fA:=by unfold mv uD;rw [if_neg (by omega),if_pos (Or.inr h)]
     rw [e.1,e.2];unfold rG;simp only [if_pos,ea];exact⟨rfl,trivial⟩
theorem aIU (D:oN p u){j:Nat}{s:Int}(h:uC u j s):eV u j→uC (cu u) (kp u j) s:=by
 have U:=D.rt.oO
 induction h with
 | read hi hs=>intro hr;exact .read (BU U hr hi) (by rw [(Xx _).1];exact hs)
 | @lead y i x s hi hx hw hs ih=>
  intro hr;refine .lead (BU U hr hi) ((Kq D hr hi).2 ⟨x,hx,rfl⟩) ?_ ?_
  · rw [(Xx _).2];exact hw
  · have:=ih (hr.lead U hi hx);unfold sT
    rwa [zau]
theorem aIV (D:oN p u){m:Nat}{s:Int}(h:uC (cu u) m s):∀j,eV u j→kp u j=m→uC u j s:=by
 have U:=D.rt.oO
 induction h with
 | read hi hs=>
  intro j hr e;subst e;obtain⟨j',i',g1,g2,g3,g4⟩:=He U hi;have:=Xv U g1 hr g2;subst this;subst g4;rw [(Xx _).1]at hs;exact .read g3 hs
 | @lead y i x s hi hx hw hs ih=>
  intro j hr e;subst e;obtain⟨j',i',g1,g2,g3,g4⟩:=He U hi;have:=Xv U g1 hr g2;subst this;subst g4;obtain⟨z,hz,rfl⟩:=(Kq D hr g3).1 hx;rw [(Xx _).2]at hw;refine .lead g3 hz hw (ih z.1.toNat (hr.lead U g3 hz) ?_);unfold sT;rw [zau]
theorem aIx (D:oN p u){j:Nat}(hr:eV u j):Ek (cu u) (kp u j)=Ek u j:=iQ.ext (ahi _ _) (ahi _ _) fun s=>by
 rw [ahh,ahh];exact⟨fun h=>aIV D h j hr rfl,fun h=>aIU D h hr⟩
end
section
variable {p:aO}{u:ae}
theorem ast (D:oN p u):kp u u.ab.length=kp u (u.ab.length-1)+1:=by
 have hn:=D.rt.oO.n1;have:=Xq D.rt.oO D.last
 rwa [show u.ab.length-1+1=u.ab.length by omega]at this
theorem asu:kp u u.ab.length≤u.ab.length:=asa _ _
theorem ahu (k:Nat)(x:Int)(hk:k≤12)(h3:k≠3):sJ p (cu u) (k:Int) x=sJ p u (k:Int) x:=by
 match k,hk with
 | 0,_=>rfl
 | 1,_=>rfl
 | 2,_=>rfl
 | 3,_=>exact absurd rfl h3
 | 4,_=>rfl
 | 5,_=>rfl
 | 6,_=>rfl
 | 7,_=>rfl
 | 8,_=>rfl
 | 9,_=>rfl
 | 10,_=>rfl
 | 11,_=>rfl
 | 12,_=>rfl
theorem aIo {op}(h:op≠24∧op≠25∧op≠32):∃a b c:Nat,a≤12∧b≤12∧c≤12∧a≠3∧b≠3∧c≠3∧(ez op).cL=⟨a,b,c⟩:=by
 cases ho:isOp op with
 | true=>rcases MH ho with rfl | rfl | rfl | rfl | rfl | rfl | rfl | rfl | rfl | rfl | rfl | rfl | rfl | rfl | rfl | rfl | rfl | rfl | rfl | rfl | rfl | rfl | rfl | rfl | rfl | rfl | rfl | rfl | rfl | rfl | rfl | rfl | rfl | rfl<;>first | exact absurd rfl h.1 | exact absurd rfl h.2.1 | exact absurd rfl h.2.2 | exact⟨_,_,_,by decide,by decide,by decide,by decide,by decide,by decide,rfl⟩
 | false=>exact⟨0,0,0,by decide,by decide,by decide,by decide,by decide,by decide,by unfold ez;rw [ho];rfl⟩
theorem Xr (hu:u.ab.length≤600)(x:Int)(h0:0<u.ab.length):sJ p u 3 x=some (decide (0≤x∧x<(u.ab.length:Int))):=by
 show((kb x 0 (bN .i64 ((u.ab.length:Int)-1))).bind fun eR=>some eR)=_;rw [rD,jv (by omega) (by omega),zaf]
 congr 1
 rw [zbz];omega
theorem asv {v i}(hs:p.bw.length<1000000)(h:rA 4 p v i=some true):wI p v i=true:=by unfold wI;rw [h];rfl
theorem aIp (D:oN p u){j:Nat}(hr:eV u j){x:ah}(hx:u.ab[j]? =some x):wI p (cu u) (mv u x)=true:=by
 have U:=D.rt.oO;have hn:=U.n1;have hs:=D.rt.len;have hR:=D.rt.right x (zat hx);have hM:=Xo 0 p u x hs;rw [hR]at hM;have Fa:=ast D;have hkn:=asu (u:=u);have ly:(cu u).ab.length=kp u u.ab.length:=QM
 by_cases h:x.aJ≠24∧x.aJ≠25∧x.aJ≠32
 · rw [QN h];refine asv hs ?_;rw [show rA 4 p (cu u) x=_ from BS 0 p (cu u) x];rw [show rA (0+4) p u x=_ from BS 0 p u x]at hM;obtain⟨a,b,c,ha,hb,hc,a3,b3,c3,e⟩:=aIo h;rw [e]at hM ⊢;simp only [ahu _ _ ha a3,ahu _ _ hb b3,ahu _ _ hc c3];exact hM
 · -- a jump
   have jmp:∀t:Int,jy x=some t→0≤((kp u t.toNat:Nat):Int)∧((kp u t.toNat:Nat):Int)<((cu u).ab.length:Int):=fun t ht=>by
    have hb:=U.jmp hx ht;have hl:(t,(1:Int))∈jG u j x:=Xj.2 (.inr (.inl ⟨ht,rfl⟩));have FJ:=hr.lead U hx hl;have:=zQ U FJ (show t.toNat<u.ab.length by omega);have h2:kp u (t,(1:Int)).1.toNat=kp u t.toNat:=rfl;rw [ly];omega
   refine asv hs ?_;rw [show rA 4 p (cu u) (mv u x)=_ from BS 0 p (cu u) (mv u x),show(mv u x).aJ=x.aJ from xX _ _];rw [show rA (0+4) p u x=_ from BS 0 p u x]at hM;have bK:isOp x.aJ=true:=(Xp hs hR).2.2;have hc:x.aJ=24∨x.aJ=25∨x.aJ=32:=by omega
   have J2:∀y:ah,y.aJ≠20→GS (0+4) y p=some true:=fun y hy=>by
    unfold GS JO;rw [zag hy];rfl
   rw [bK]at hM ⊢;have ho:=xX (dU (fh u) u.ab.length) x;have Xs:(mv u x).aJ≠20:=by rw [show(mv u x).aJ=x.aJ from ho];omega
   rcases hc with h | h | h
   · have e:(ez x.aJ).cL=⟨3,0,0⟩:=by rw [h];rfl
     have ea:mv u x=⟨x.aJ,((kp u x.fA.toNat:Nat):Int),x.fB,x.fC⟩:=by
      have:=U.jmp hx (p:=x.fA) (by unfold jy;rw [if_pos h]);unfold mv uD;rw [if_pos h,zP _ _ _ (by omega)]
     have hj:=jmp x.fA (by unfold jy;rw [if_pos h]);rw [e]at hM ⊢;simp only [Xr (p:=p) (u:=u) (by omega) x.fA (by omega)]at hM;rw [ea];simp only [Xr (p:=p) (u:=cu u) (by omega) _ (by omega),zac hj];rw [ea]at Xs;rcases xW p u 0 x.fB (by omega) hs with⟨b,hb,_⟩
     rcases xW p u 0 x.fC (by omega) hs with⟨c,hc,_⟩
     rw [show((0:Nat):Int)=0 from rfl]at hb hc;have dN:sJ p (cu u) 0 x.fB=some b:=hb;have jf:sJ p (cu u) 0 x.fC=some c:=hc;simp only [hb,hc,dN,jf,zaf,zas,zak]at hM ⊢;cases b with
     | false=>cases hd:decide (0≤x.fA∧x.fA<(u.ab.length:Int))<;>rw [hd]at hM<;>cases hM
     | true=>cases c with
      | false=>cases hd:decide (0≤x.fA∧x.fA<(u.ab.length:Int))<;>rw [hd]at hM<;>cases hM
      | true=>exact J2 _ Xs
   all_goals
    have h2:x.aJ=25∨x.aJ=32:=by omega
    have e:(ez x.aJ).cL=⟨1,3,0⟩:=by rw [h];rfl
    have ea:mv u x=⟨x.aJ,x.fA,((kp u x.fB.toNat:Nat):Int),x.fC⟩:=by
     have:=U.jmp hx (p:=x.fB) (by unfold jy;rw [if_neg (by omega),if_pos h2]);unfold mv uD;rw [if_neg (by omega),if_pos h2,zP _ _ _ (by omega)]
    have hj:=jmp x.fB (by unfold jy;rw [if_neg (by omega),if_pos h2]);rw [e]at hM ⊢;simp only [Xr (p:=p) (u:=u) (by omega) x.fB (by omega)]at hM;rw [ea];simp only [Xr (p:=p) (u:=cu u) (by omega) _ (by omega),zac hj];rw [ea]at Xs;rcases xW p u 1 x.fA (by omega) hs with⟨b,hb,_⟩
    rcases xW p u 0 x.fC (by omega) hs with⟨c,hc,_⟩
    rw [show((1:Nat):Int)=1 from rfl]at hb;rw [show((0:Nat):Int)=0 from rfl]at hc;have dN:sJ p (cu u) 1 x.fA=some b:=hb;have jf:sJ p (cu u) 0 x.fC=some c:=hc;simp only [hb,hc,dN,jf,zaf,zas,zak]at hM ⊢;cases b with
    | false=>cases hM
    | true=>cases c with
     | false=>cases hd:decide (0≤x.fB∧x.fB<(u.ab.length:Int))<;>rw [hd]at hM<;>cases hM
     | true=>exact J2 _ Xs
theorem iE.other {q t b}(H:iE p u q t b){i:Nat}(h1:b≤i)(h2:i≤q):iE p u q i b:=by
 obtain⟨ins,k,g1,g2,g3,g4,_,_⟩:=H;exact⟨ins,k,g1,g2,g3,g4,h1,h2⟩
theorem iE.up (D:oN p u){q t b:Nat}(H:iE p u q t b)(hr:eV u t):∀n,t+n≤q→eV u (t+n)
 | 0,_=>hr
 | n+1,h=>by
  have U:=D.rt.oO;have ih:=H.up D hr n (by omega);obtain⟨ins,k,g1,g2,g3,g4,g5,g6⟩:=H;have H2:iE p u q (t+n) b:=⟨ins,k,g1,g2,g3,g4,by omega,by omega⟩;obtain⟨a,ha,ho⟩:=H2.arg (by omega);have hq:=(List.getElem?_eq_some_iff.1 g1).1;have he:rE a.aJ=false:=by rw [ho];rfl
  have:=ih.lead U ha (x:=(((t+n:Nat):Int)+1,0)) (Xj.2 (.inl ⟨he,by omega,rfl,rfl⟩))
  rwa [show((((t+n:Nat):Int)+1,(0:Int))).1.toNat=t+(n+1) by show(((t+n:Nat):Int)+1).toNat=_;omega]at this
theorem iE.down (D:oN p u){q t b:Nat}(H:iE p u q t b)(hr:eV u t):∀n,b+n≤t→eV u (t-n)
 | 0,_=>hr
 | n+1,h=>by
  have U:=D.rt.oO;have ih:=H.down D hr n (by omega);have g6:t≤q:=by obtain⟨_,_,_,_,_,_,_,g6⟩:=H;exact g6
  have H2:iE p u q (t-n) b:=H.other (by omega) (by omega);generalize hi:t-n=i at ih H2;have hb:b<i:=by omega
  cases ih with
  | zero=>omega
  | @step a _ y ha hy dN=>
   obtain⟨k,hk⟩:=En.1 dN
   by_cases h0:k=0
   · rcases Xj.1 hk with⟨_,_,h3,_⟩ | ⟨_,h3⟩ | ⟨_,_,_,_,_,h3⟩
     · have:a=t-(n+1):=by omega
       rwa [this]at ha
     · omega
     · omega
   · exact absurd ⟨q,b,by rw [zau];exact H2,by omega⟩ (D.rt.mid a y hy _ hk h0)
theorem iE.all (D:oN p u){q t b:Nat}(H:iE p u q t b)(hr:eV u t){i:Nat}(h1:b≤i)(h2:i≤q):eV u i:=by
 have g:b≤t∧t≤q:=by obtain⟨_,_,_,_,_,_,g5,g6⟩:=H;exact⟨g5,g6⟩
 by_cases h:t≤i
 · have:=H.up D hr (i-t) (by omega)
   rwa [show t+(i-t)=i by omega]at this
 · have:=H.down D hr (t-i) (by omega)
   rwa [show t-(t-i)=i by omega]at this
theorem ahv (U:gJ u){b:Nat}:∀n,(∀i,i<n→eV u (b+i))→kp u (b+n)=kp u b+n
 | 0,_=>rfl
 | n+1,h=>by
  have ih:=ahv U n fun i hi=>h i (by omega)
  have:=Xq U (h n (zax _));rw [show b+(n+1)=b+n+1 by omega,this,ih];omega
theorem asw {v s}:∀k,(∀j,j<k→Ep v s j=true)→qQ v s k=true
 | 0,_=>rfl
 | k+1,h=>by
  unfold qQ;rw [asw k fun j hj=>h j (by omega),h k (zax _)];rfl
theorem aIq (D:oN p u){q t b:Nat}(H:iE p u q t b)(hr:eV u t):iE p (cu u) (kp u q) (kp u t) (kp u b):=by
 have U:=D.rt.oO;have A:=fun i=>H.all D hr (i:=i)
 obtain⟨ins,k,g1,g2,g3,g4,g5,g6⟩:=H;have bK:=ahw g2;have hq:=A q (by omega) (by omega);have Fv:mv u ins=ins:=QN (by omega);have run:∀n,n≤k→kp u (b+n)=kp u b+n:=fun n hn=>ahv U n fun i hi=>A (b+i) (by omega) (by omega)
 have hk:=run k (zad _);rw [show b+k=q by omega]at hk;refine⟨ins,k,by rw [←Fv];exact BU U hq g1,g2,?_,by omega,Er g5,Er g6⟩;unfold xY at g3 ⊢;rw [zae]at g3 ⊢;refine⟨zac (by omega),?_⟩;rw [show kp u q-k=kp u b by omega];refine asw k fun j hj=>?_;obtain⟨a,h1,h2,h3⟩:=asx (ahx g3.2 hj);rw [show q-k+j=b+j by omega]at h1;have h4:=BU U (A (b+j) (by omega) (by omega)) h1;rw [run j (by omega),QN (by omega)]at h4;unfold Ep;rw [h4];exact zac ⟨h2,h3⟩
theorem aIr (D:oN p u):Xt p (cu u):=fun m y hy ho=>by
 obtain⟨j,x,h1,h2,h3,h4⟩:=He D.rt.oO hy;rw [h4,show(mv u x).aJ=x.aJ from xX _ _]at ho;obtain⟨c,b,H⟩:=D.rt.heads j x h3 ho;exact⟨_,_,h2▸aIq D H h1⟩
theorem aIs (D:oN p u):QO p (cu u):=fun m y hy q hq h0 hm=>by
 have U:=D.rt.oO;obtain⟨j,x,h1,h2,h3,h4⟩:=He U hy;subst h2;subst h4;obtain⟨z,hz,rfl⟩:=(Kq D h1 h3).1 hq;have sR:=Ej U h3 hz;have FJ:=h1.lead U h3 hz;refine D.rt.mid j x h3 z hz h0 ?_;obtain⟨c',b',H,eM⟩:=hm;have et:(sT u z).1.toNat=kp u z.1.toNat:=by unfold sT;rw [zau]
 have et2:(sT u z).1=((kp u z.1.toNat:Nat):Int):=rfl;rw [et]at H;rw [et2]at eM;obtain⟨asy,k',g1,g2,g3,g4,g5,g6⟩:=H;have bK:=ahw g2;obtain⟨qq,x0,r1,r2,r3,r4⟩:=He U g1;subst r2;have ho0:asy.aJ=x0.aJ:=by rw [r4];exact xX _ _
 have Fv:mv u x0=x0:=QN (by omega);rw [r4,Fv]at g2;obtain⟨q2,b,H2⟩:=D.rt.heads qq x0 r3 (by omega)
 have hq2:q2=qq:=by
  by_cases h:qq<q2
  · obtain⟨a,ha,ho⟩:=H2.arg h;rw [r3]at ha;cases ha;omega
  · obtain⟨_,_,_,_,_,_,_,g⟩:=H2;omega
 subst hq2;have A:=fun i=>H2.all D r1 (i:=i)
 have H3:=H2;obtain⟨aL8,k2,f1,f2,f3,f4,f5,f6⟩:=H2;rw [r3]at f1;cases f1;rw [g2]at f2;cases f2;have run:=ahv U (b:=b) k' fun i hi=>A (b+i) (by omega) (by omega)
 rw [show b+k'=q2 by omega]at run;have Bi:b'=kp u b:=by omega
 have t1:b≤z.1.toNat:=by
  by_cases h:b≤z.1.toNat
  · exact h
  · have:=zQ U FJ (show z.1.toNat<b by omega);omega
 have t2:z.1.toNat≤q2:=by
  by_cases h:z.1.toNat≤q2
  · exact h
  · have:=zQ U r1 (show q2<z.1.toNat by omega);omega
 refine⟨q2,b,H3.other t1 t2,fun e=>eM ?_⟩;have:b=z.1.toNat:=by omega
 rw [Bi,this]
theorem asz (D:oN p u):rJ p (cu u):=by
 have U:=D.rt.oO;have hn:=U.n1;have z:=ahq D.rt.sz;have Fa:=ast D;have hkn:=asu (u:=u);have ly:(cu u).ab.length=kp u u.ab.length:=QM;have Mx:(cu u).aI.length≤u.aI.length:=by rw [ahy];exact List.length_filterMap_le _ _
 refine⟨⟨D.rt.toSelOk,by omega,by omega,fun y hy=>?_⟩,D.rt.cls,D.rt.nm,?_,?_,aIr D,fun g hg=>?_,aIs D,asA D⟩
 · obtain⟨m,hm⟩:=zaV hy;obtain⟨j,x,h1,_,h3,h4⟩:=He U hm;rw [h4];exact aIp D h1 h3
 · show QL u.fArgs u.aE u.aD (cu u).ab.length (cu u).aI.length=0;unfold QL;have hz:=z.2.2.2.2.2.2.2.2.2;rw [if_neg (by omega),if_neg (by omega)]
 · obtain⟨i,h1,h2⟩:=D.rt.ends;have:=BU U D.last h1;refine⟨mv u i,by rw [ly,Fa];exact this,?_⟩;rw [show(mv u i).aJ=i.aJ from xX _ _];exact h2
 · rw [ahy,List.mem_filterMap]at hg;obtain⟨g0,h1,h2⟩:=hg;obtain⟨k,hk⟩:=zaV h1;have hb:=U.BR hk;unfold Hf at h2;split at h2
   · next cy=>
     cases h2;rw [ahz U h1]at cy ⊢;have m1:=Er (u:=u) (show g0.dO.toNat≤u.ab.length by omega);have m2:=Er (u:=u) (show g0.bG.toNat≤u.ab.length-1 by omega);unfold oM;simp only at cy ⊢;rw [zag (by omega),zag (by omega),zag (by omega),zac (by omega)];rfl
   · cases h2
end
theorem asB (i:Nat)(h:i<9223372036854775807):bN .i64 ((i:Int)+1)=((i+1:Nat):Int):=by rw [jv (by omega) (by omega)];rfl
theorem aIt (N:Nat)(p:aO)(h1:p.bp.length<9223372036854775808)(h2:p.bE.length<9223372036854775808)(n1:p.bp.length<N)(n2:p.bE.length<N):∃b,MS N p=some b:=by
 have J2:∃b,MO N p=some b:=by
  have P1:∀b,∃c,IQ N p b=some c:=fun b=>by cases b<;>exact⟨_,rfl⟩
  have P2:∀b,∃c,IS N p b=some c:=fun b=>by
   unfold IS;cases b with
   | false=>exact P1 false
   | true=>cases decide ((p.bp.length:Int)≤12)<;>first | exact P1 true | exact P1 (decide _)
  have P3:∀b,∃c,IT N p b=some c:=fun b=>by cases b<;>first | exact P2 false | exact P2 (decide _)
  have P4:∀b,∃c,IU N p b=some c:=fun b=>by
   unfold IU;cases b with
   | false=>exact P3 false
   | true=>cases decide ((p.bw.length:Int)≤12)<;>first | exact P3 true | exact P3 (decide _)
  have P5:∀b,∃c,MN N p b=some c:=fun b=>by cases b<;>first | exact P4 false | exact P4 (decide _)
  unfold MO;cases decide ((p.bE.length:Int)≤8)<;>first | exact P5 true | exact P5 (decide _)
 have J1:∃b,MQ N p=some b:=by
  unfold MQ
  rcases BP (fun n y=>MP N p n y) p.bE.length (fun _=>True) (fun o=>∃b,o=some b) (fun n k hk=>by
   show(∃b,CT N p (k:Int) _=some b)∨(_∧CT N p (k:Int) _=_);unfold CT UX MM UW;rw [qM k _ hk,gG,zab hk,asB k (by omega)];simp only [zam,zak,zaf];cases decide (80<(p.bE[k].kV.length:Int))with
   | true=>exact .inl ⟨_,rfl⟩
   | false=>cases decide (500<(p.bE[k].gh.length:Int))with
    | true=>exact .inl ⟨_,rfl⟩
    | false=>exact .inr ⟨trivial,rfl⟩) N 0 (fun _ _=>trivial) (zaz _) (by omega)with h | ⟨_,n',h⟩
  · exact h
  · rw [show((0:Nat):Int)=0 from rfl]at h;obtain⟨b,hb⟩:=J2;refine⟨b,h.trans ?_⟩;show CT N p _ _=_;unfold CT;rw [qO];exact hb
 unfold MS
 rcases BP (fun n y=>MR N p n y) p.bp.length (fun _=>True) (fun o=>∃b,o=some b) (fun n k hk=>by
  show(∃b,CU N p (k:Int) _=some b)∨(_∧CU N p (k:Int) _=_);unfold CU UU UT;obtain⟨b,hb⟩:=aH2 p.bp[k];rw [qM k _ hk,gG,zab hk,asB k (by omega)];simp only [zam,zaf,hb];cases b with
  | false=>exact .inl ⟨_,rfl⟩
  | true=>exact .inr ⟨trivial,rfl⟩) N 0 (fun _ _=>trivial) (zaz _) (by omega)with h | ⟨_,n',h⟩
 · exact h
 · rw [show((0:Nat):Int)=0 from rfl]at h;obtain⟨b,hb⟩:=J1;refine⟨b,h.trans ?_⟩;show CU N p _ _=_;unfold CU;rw [qO];exact hb
theorem aIu (n:Nat):∀i,i≤n→l4 (List.replicate n true) i=i:=fun i hi=>by
 unfold l4;rw [List.take_replicate,List.count_replicate_self];omega
theorem aIv {u}(U:gJ u):Em u (List.replicate u.ab.length true)=u:=by
 have hn:=U.n1;have A:∀m k,k<m→m≤u.ab.length+1→k≤u.ab.length→(dU (List.replicate u.ab.length true) m).getD k 0=(k:Int):=fun m k h1 _ h2=>by rw [zP _ _ _ h1,aIu _ _ h2]
 have e1:∀i,i≤u.ab.length→vx (dU (List.replicate u.ab.length true) u.ab.length) u.ab (List.replicate u.ab.length true) i=u.ab.take i:=by
  intro i
  induction i with
  | zero=>intro _;rfl
  | succ i ih=>
   intro hi;have hx:u.ab[i]? =some u.ab[i]:=zab (by omega);rw [ahm _ _ _ i (k:=true) (by rw [zaF,if_pos (by omega)]) hx,if_pos rfl,ih (by omega),List.take_succ_eq_append_getElem (by omega)]
   congr 2
   unfold uD
   by_cases h1:u.ab[i].aJ=24
   · have hb:=U.jmp hx (p:=u.ab[i].fA) (by unfold jy;rw [if_pos h1]);rw [if_pos h1,A _ _ (by omega) (by omega) (by omega),zbw hb.1]
   · rw [if_neg h1]
     by_cases h2:u.ab[i].aJ=25∨u.ab[i].aJ=32
     · have hb:=U.jmp hx (p:=u.ab[i].fB) (by unfold jy;rw [if_neg h1,if_pos h2]);rw [if_pos h2,A _ _ (by omega) (by omega) (by omega),zbw hb.1]
     · rw [if_neg h2]
 have e2:∀i,i≤u.aI.length→vy (dU (List.replicate u.ab.length true) (u.ab.length+1)) u.aI i=u.aI.take i:=by
  intro i
  induction i with
  | zero=>intro _;rfl
  | succ i ih=>
   intro hi;have hg:u.aI[i]? =some u.aI[i]:=zab (by omega);have hb:=U.BR hg
   have em:qP (dU (List.replicate u.ab.length true) (u.ab.length+1)) u.aI[i]=u.aI[i]:=by
    unfold qP;rw [A _ _ (by omega) (by omega) (by omega),A _ _ (by omega) (by omega) (by omega),A _ _ (by omega) (by omega) (by omega),zbw hb.1,zbw (by omega),zbw hb.2.2.2.1]
   rw [asc _ _ i hg,em,if_pos hb.2.1,ih (by omega),List.take_succ_eq_append_getElem (by omega)]
 unfold Em;rw [e1 _ (zad _),e2 _ (zad _),List.take_length,List.take_length]
theorem all_true {u}(p:aO)(v21:List Bool)(N:Nat)(hl:u.ab.length≤600)(hN:1000≤N):F4 N u v21 true p N (List.replicate u.ab.length false) 0=Nf N u (List.replicate u.ab.length true) v21 true p:=by
 obtain⟨n',s,⟨h1,h2⟩,e⟩:=Xh (fun n (s:List Bool) y=>F4 N u v21 true p n s y) u.ab.length (fun i s=>s.length=u.ab.length∧∀j:Nat,j<i→s[j]? =some true) (fun n i s hi hs=>by
  have wc:i<s.length:=by omega
  refine⟨s.set i true,⟨by simpa using hs.1,fun j hj=>?_⟩,?_⟩
  · rw [zaX]
    by_cases e:i=j
    · subst e;rw [if_pos rfl,if_pos wc]
    · rw [if_neg e];exact hs.2 j (by omega)
  · show F0 N s u v21 true p (i:Int) _=_;unfold F0 U2 U0;rw [qM i _ wc,gG,zab wc,zaf,qN i (by omega),zau];rfl) N 0 (List.replicate u.ab.length false) ⟨by simp,fun j hj=>absurd hj (zbd _)⟩ (zaz _) (by omega)
 rw [show((0:Nat):Int)=0 from rfl]at e
 have es:s=List.replicate u.ab.length true:=List.ext_getElem? fun j=>by
  rw [zaF]
  by_cases hj:j<u.ab.length
  · rw [if_pos hj,h2 j hj]
  · rw [if_neg hj,zba (by omega)]
 refine e.trans ?_;show F0 N s u v21 true p _ _=_;unfold F0;rw [h1,qO,es];rfl
theorem aIw {p u}(D:oN p u)(N:Nat)(hN:1000000≤N){o1 o2:ZZD}(d1:Kk u o1)(d2:Kk (cu u) o2):M4 N u (fh u) (rH u) (dU (fh u) u.ab.length) (rH (cu u)) (fh (cu u)) o1 o2 (cu u) true=some true:=by
 have U:=D.rt.oO;have hn:=U.n1;have V:=(asz D).oO;unfold M4
 exact El u.ab.length (fun n i=>M3 N u (fh u) (rH u) (dU (fh u) u.ab.length) (rH (cu u)) (fh (cu u)) o1 o2 (cu u) true n (i:Int)) (some true) (fun n m hm=>by
  show FW N u (fh u) (rH u) (dU (fh u) u.ab.length) (rH (cu u)) (fh (cu u)) o1 o2 (cu u) true (m:Int) _=_;unfold FW U4 IV
  have e:(fh u)[m]? =some (decide (eV u m)):=by
   unfold fh;rw [zaJ,zbf hm];rfl
  rw [qM m _ hm,gG,e,zaf,qN m (by omega),zam]
  by_cases hr:eV u m
  · rw [zac hr,zas,zak];unfold U3 M0 MZ MY IV;have hk:kp u m<(cu u).ab.length:=by rw [QM];exact zQ U hr hm
    have ea:(dU (fh u) u.ab.length)[m]? =some ((kp u m:Nat):Int):=by
     unfold dU;rw [zaJ,zbf hm];rfl
    obtain⟨d,hd⟩:=hr.dep U;have hx:u.ab[m]? =some u.ab[m]:=zab hm;have nl:=aHM u m;simp only [gG,ahj hm,ea,ahj hk,zaf,aIx D hr,ar8 d1 D.rt.good hm hd,ar8 d2 (asA D) hk (aIy D hd),aHU hk (aIz D hr),BU U hr hx,hx,qN m (show m<1000000 by omega)];rw [aH0 N _ (by omega) (by omega)];rw [show(mv u u.ab[m]).aJ=u.ab[m].aJ from xX _ _];simp
  · rw [zag hr];rfl) (fun n=>by
  show FW N u (fh u) (rH u) (dU (fh u) u.ab.length) (rH (cu u)) (fh (cu u)) o1 o2 (cu u) true _ _=_;unfold FW;rw [qO];rfl) N 0 (zaz _) (by omega)
theorem auo (N:Nat)(hN:1000000≤N)(p:aO)(h1:p.bp.length<9223372036854775808)(h2:p.bE.length<9223372036854775808)(n1:p.bp.length<N)(n2:p.bE.length<N)(x1:Int)(hx:0≤x1∧x1<256):U7 N p x1=some true:=by
 have oi:1000≤N:=by omega
 unfold U7;obtain⟨b,hb⟩:=aIt N p h1 h2 n1 n2;rw [hb];show(bif !b then some true else _)=_;cases b with
 | false=>rfl
 | true=>
  show Ni N p true x1=_;unfold Ni;obtain⟨r,hr,jd⟩:=aIA N oi p;rw [hr,zaf]
  by_cases h0:r.1=0
  · rw [zac h0];obtain⟨sh,pI,iz⟩:=jd h0;show Nh N p x1 true=_;unfold Nh;obtain⟨k,hk,ek⟩:=aHS (l:=List.replicate p.bp.length 0) (by simpa using sh) hx;rw [za9]at hk ek;rw [ek,zag (show¬((p.bp.length:Int)=0) by omega),gG,zab hk];have R:=iz p.bp[k] (zbl hk);generalize p.bp[k]=u at R;have U:=R.oO;have hn:=U.n1;have er:Kp u=fh u:=by unfold Kp;rw [U.pl];rfl
    have hq:u.ab.length*(2*u.ab.length)≤600*(2*600):=Nat.mul_le_mul hn.2.1 (Nat.mul_le_mul (zad 2) hn.2.1);show((FX N u).bind _)=_;rw [aso N oi,er,zaf,zac (show(0:Int)≤(u.ab.length:Int) by omega),zac (show(u.ab.length:Int)≤65536 by omega),zau];show F4 N u (fh u) true p N (List.replicate u.ab.length false) 0=_;rw [all_true p (fh u) N hn.2.1 oi];unfold Nf Nd
    have c1:pT u (List.replicate u.ab.length true)=(u,dU (List.replicate u.ab.length true) u.ab.length,0):=by
     unfold pT;rw [if_neg (by simp [U.pl]),if_neg ?_,aIv U];rw [zaH,zaF,if_pos (by omega)];simp
    rw [ase N oi,c1,zaf,aH1 N u (by omega) (by omega) (by omega) (by omega),zaf];show Nc N u (fh u) true p=_;unfold Nc
    have e:(fh u)[u.ab.length-1]? =some (decide (eV u (u.ab.length-1))):=by
     unfold fh;rw [zaJ,zbf (by omega)];rfl
    rw [jv (by omega) (by omega),show(u.ab.length:Int)-1=((u.ab.length-1:Nat):Int) by omega,gG,e,zaf]
    by_cases hl:eV u (u.ab.length-1)
    · have D:oN p u:=⟨R,hl⟩;have RC:=asz D;have V:=RC.oO;have hv:=V.n1;have hq2:(cu u).ab.length*(2*(cu u).ab.length)≤600*(2*600):=Nat.mul_le_mul hv.2.1 (Nat.mul_le_mul (zad 2) hv.2.1);rw [zac hl];show Nb N u (fh u) p true=_;unfold Nb Na
      have c2:pT u (fh u)=(cu u,dU (fh u) u.ab.length,0):=by
       unfold pT;rw [if_neg (by simp [U.pl,ahA]),if_neg ?_];rw [zaH,e,zac hl];simp
      rw [ase N oi,c2,zaf];simp only [QJ,zaK,zas,zak];unfold U5 M8 M7 M6 M5;obtain⟨rc,oh,E4⟩:=asC R.toSelOk (cu u) N oi;have er2:Kp (cu u)=fh (cu u):=by unfold Kp;rw [V.pl];rfl
      rcases ar7 U N oi with⟨o1,g1,g2,_⟩ | ⟨_,g2⟩
      · rcases ar7 V N oi with⟨o2,g3,g4,_⟩ | ⟨_,g4⟩
        · rw [oh,aso N oi,er2,g1,g3,ar6 U N oi (by omega),ar6 V N oi (by omega)];simp only [zaf,E4.2 RC,zaK,zas,zak,ahA,arY];exact aIw D N hN g2 g4
        · exact absurd RC.good g4
      · exact absurd R.good g2
    · rw [zag hl];rfl
  · rw [zag h0];rfl
end
end Go.Ve.T
