/- THE WALK of LedgerApplies. -/
import Derived.Test.YtmbpnkacggngkaaGreatDoorLX16
set_option maxRecDepth 100000
set_option maxHeartbeats 16000000
namespace Go.Proofs.YtmbpnkacggngkaaGreatDoor
open Batch
open Go.Proofs.Tryz
section
open Go.RowKit Mem Led
theorem ledgerApplies_in(A:Option Addr) (n c:Nat) (L:List OpV) (w:World) (G:Tab Sha.kkL w) (hd:iF w A n L) (_hn:n<=c) (_hc:c<=9223372036854775807) :
  Calls prog 3 #[.slice A n c] w fun e w'=>e=.returned (.bool true)/\eD w w':=by
 have R:=pS A n c L 40 w G hd (by omega)
 have S:=hO G
 clear G hd
 go_enter func3,ntmps3
 go_wp2_with fail
 refine R.mono ?_
 rintro e T ⟨H,I,Z,b,d,E2,U2,rfl,B,C,J,D,_,_⟩
 obtain⟨f,U,K,M,V,X,F⟩:=two_lg T B.len B.ones C.len C.ones
 have E:=D.trans (F.mono D.size)
 have Y:=jK U (S.out.below E)
 obtain⟨g,N⟩:=eC (H.toArray)
 obtain⟨h,O⟩:=eC (I.toArray)
 rw [N.out] at K ⊢
 rw [O.out] at M ⊢
 clear R B C J V X F D
 go_wp2_with fail
 refine Y.mono ?_
 rintro e i ⟨rfl,Q⟩
 go_wp2
 go_ret
 exact⟨rfl,E.trans (Q.mono E.size)⟩
end
end Go.Proofs.YtmbpnkacggngkaaGreatDoor
