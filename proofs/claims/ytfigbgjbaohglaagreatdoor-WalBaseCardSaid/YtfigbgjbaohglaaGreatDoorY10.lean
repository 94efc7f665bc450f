/- Parts of the proof. -/
import Derived.Test.YtfigbgjbaohglaaGreatDoorY7
import Derived.Test.YtfigbgjbaohglaaGreatDoorY8
import Derived.Test.YtfigbgjbaohglaaGreatDoorChecked
import Derived.Test.YtfigbgjbaohglaaGreatDoorY9
section
set_option maxRecDepth 100000
namespace Go.Proofs.YtfigbgjbaohglaaGreatDoor.bP
open Go.au
noncomputable def xP:List (Nat × bg):=(64,.gW nK)::(84,.gW nJ)::(81,.gW oV)::fns
theorem WZ:wI Tryz.prog xP:=⟨Lh,Lg,Li,K2⟩
theorem W3:xP.all (fun p=>okF p.2)=true:=by kernel_rfl
noncomputable def tree:TF:=TF.mk xP 8 0 1
theorem W4:∀f af,tab xP f=some af→gZ Tryz.prog f af:=Ag WZ
theorem runs:isTrue (run (tab xP) 300 ah.empty.next 17 [] ah.empty)=true:=WY (k:=8) (T:=tree) rfl W3 (by kernel_rfl)
def sC:Nat→List aa→ah→Option (aa × ah):=fun _ args H=>match args with | []=>some (.bool true,H) | _=>none
theorem W5:eN Tryz.prog 17 sC:=by
 obtain ⟨H0,h⟩:=DA runs
 exact eN.closed Tryz.checked.mixed W4 h rfl
end Go.Proofs.YtfigbgjbaohglaaGreatDoor.bP
end
section
set_option maxRecDepth 100000
namespace Go.Proofs.YtfigbgjbaohglaaGreatDoor.bP
open Go.au
theorem mixed:Tryz.prog.follows .mixedOrders=true:=Tryz.checked.mixed
def LU:FuncId→Option bg:=over [(64,.gW nK),(84,.gW nJ),(81,.gW oV),(17,.gW sC)] K0
theorem W6:∀f af,LU f=some af→gZ Tryz.prog f af:=Kb ⟨Lh,Lg,Li,W5,trivial⟩ Wa
def ap:FuncId→Option bg:=over [] LU
theorem agb:∀f af,ap f=some af→gZ Tryz.prog f af:=Kb trivial W6
theorem a3:ap 3=some (.code f3):=by kernel_rfl
theorem a4:ap 4=some (.code f4):=by kernel_rfl
theorem a7:ap 7=some (.code f7):=by kernel_rfl
theorem W7:ap 15=some (.code f15):=by kernel_rfl
theorem W8:ap 16=some (.code f16):=by kernel_rfl
theorem W9:ap 18=some (.code f18):=by kernel_rfl
theorem Xa:ap 19=some (.code f19):=by kernel_rfl
theorem a20:ap 20=some (.code f20):=by kernel_rfl
theorem a21:ap 21=some (.code f21):=by kernel_rfl
theorem a22:ap 22=some (.code f22):=by kernel_rfl
theorem a23:ap 23=some (.code f23):=by kernel_rfl
theorem a24:ap 24=some (.code f24):=by kernel_rfl
theorem a25:ap 25=some (.code f25):=by kernel_rfl
theorem a26:ap 26=some (.code f26):=by kernel_rfl
theorem a27:ap 27=some (.code f27):=by kernel_rfl
theorem a28:ap 28=some (.code f28):=by kernel_rfl
theorem a29:ap 29=some (.code f29):=by kernel_rfl
theorem a31:ap 31=some (.code f31):=by kernel_rfl
theorem a33:ap 33=some (.code f33):=by kernel_rfl
theorem a34:ap 34=some (.code f34):=by kernel_rfl
theorem a35:ap 35=some (.code f35):=by kernel_rfl
theorem a36:ap 36=some (.code f36):=by kernel_rfl
theorem a37:ap 37=some (.code f37):=by kernel_rfl
theorem a38:ap 38=some (.code f38):=by kernel_rfl
theorem a57:ap 57=some (.code f57):=by kernel_rfl
theorem Xb:ap 66=some (.code f66):=by kernel_rfl
theorem Xc:ap 67=some (.code f67):=by kernel_rfl
theorem Xd:ap 68=some (.code f68):=by kernel_rfl
theorem Xe:ap 69=some (.code f69):=by kernel_rfl
theorem a70:ap 70=some (.code f70):=by kernel_rfl
theorem Xf:ap 71=some (.code f71):=by kernel_rfl
theorem a72:ap 72=some (.code f72):=by kernel_rfl
theorem Xg:ap 73=some (.code f73):=by kernel_rfl
theorem Xh:ap 74=some (.code f74):=by kernel_rfl
theorem a75:ap 75=some (.code f75):=by kernel_rfl
theorem a76:ap 76=some (.code f76):=by kernel_rfl
theorem Xi:ap 77=some (.code f77):=by kernel_rfl
theorem a78:ap 78=some (.code f78):=by kernel_rfl
theorem a79:ap 79=some (.code f79):=by kernel_rfl
theorem Xj:ap 80=some (.code f80):=by kernel_rfl
theorem a82:ap 82=some (.code f82):=by kernel_rfl
theorem Xk:ap 83=some (.code f83):=by kernel_rfl
theorem a85:ap 85=some (.code f85):=by kernel_rfl
theorem Xl:ap 96=some (.code f96):=by kernel_rfl
theorem Xm:ap 102=some (.code f102):=by kernel_rfl
theorem Xn:ap 103=some (.code f103):=by kernel_rfl
theorem Xo:ap 104=some (.code f104):=by kernel_rfl
theorem Xp:ap 111=some (.code f111):=by kernel_rfl
theorem Xq:ap 114=some (.code f114):=by kernel_rfl
theorem Xr:ap 115=some (.code f115):=by kernel_rfl
theorem a116:ap 116=some (.code f116):=by kernel_rfl
theorem a117:ap 117=some (.code f117):=by kernel_rfl
theorem Xs:ap 118=some (.code f118):=by kernel_rfl
theorem a119:ap 119=some (.code f119):=by kernel_rfl
theorem Xt:ap 120=some (.code f120):=by kernel_rfl
theorem Xu:ap 121=some (.code f121):=by kernel_rfl
theorem Xv:ap 122=some (.code f122):=by kernel_rfl
theorem agc:ap 123=some (.code f123):=by kernel_rfl
theorem a124:ap 124=some (.code f124):=by kernel_rfl
theorem agd:ap 125=some (.code f125):=by kernel_rfl
theorem Xw:ap 126=some (.code f126):=by kernel_rfl
theorem age:ap 133=some (.code f133):=by kernel_rfl
theorem agf:ap 134=some (.code f134):=by kernel_rfl
theorem a148:ap 148=some (.code f148):=by kernel_rfl
theorem Xx:ap 153=some (.code f153):=by kernel_rfl
theorem Xy:ap 155=some (.code f155):=by kernel_rfl
theorem a156:ap 156=some (.code f156):=by kernel_rfl
theorem a160:ap 160=some (.code f160):=by kernel_rfl
theorem Xz:ap 161=some (.code f161):=by kernel_rfl
theorem a162:ap 162=some (.code f162):=by kernel_rfl
theorem agh:ap 163=some (.code f163):=by kernel_rfl
theorem a164:ap 164=some (.code f164):=by kernel_rfl
theorem a167:ap 167=some (.code f167):=by kernel_rfl
theorem a168:ap 168=some (.code f168):=by kernel_rfl
theorem agi:ap 169=some (.code f169):=by kernel_rfl
theorem XA:ap 170=some (.code f170):=by kernel_rfl
theorem a171:ap 171=some (.code f171):=by kernel_rfl
theorem agj:ap 172=some (.code f172):=by kernel_rfl
theorem a173:ap 173=some (.code f173):=by kernel_rfl
theorem agk:ap 178=some (.code f178):=by kernel_rfl
theorem agl:ap 179=some (.code f179):=by kernel_rfl
theorem agm:ap 180=some (.code f180):=by kernel_rfl
theorem agn:ap 181=some (.code f181):=by kernel_rfl
theorem a182:ap 182=some (.code f182):=by kernel_rfl
theorem a183:ap 183=some (.code f183):=by kernel_rfl
theorem ago:ap 184=some (.code f184):=by kernel_rfl
theorem agp:ap 185=some (.code f185):=by kernel_rfl
theorem agq:ap 186=some (.code f186):=by kernel_rfl
theorem agr:ap 187=some (.code f187):=by kernel_rfl
theorem ags:ap 188=some (.code f188):=by kernel_rfl
theorem XB:ap 205=some (.code f205):=by kernel_rfl
theorem agt:ap 207=some (.code f207):=by kernel_rfl
theorem a208:ap 208=some (.code f208):=by kernel_rfl
theorem agu:ap 209=some (.code f209):=by kernel_rfl
theorem a210:ap 210=some (.code f210):=by kernel_rfl
theorem agv:ap 211=some (.code f211):=by kernel_rfl
theorem a212:ap 212=some (.code f212):=by kernel_rfl
theorem agw:ap 215=some (.code f215):=by kernel_rfl
theorem agx:ap 216=some (.code f216):=by kernel_rfl
theorem agy:ap 217=some (.code f217):=by kernel_rfl
theorem a218:ap 218=some (.code f218):=by kernel_rfl
theorem agz:ap 219=some (.code f219):=by kernel_rfl
theorem agA:ap 220=some (.code f220):=by kernel_rfl
theorem a236:ap 236=some (.code f236):=by kernel_rfl
theorem agB:ap 239=some (.code f239):=by kernel_rfl
theorem agC:ap 246=some (.code f246):=by kernel_rfl
theorem XC {n lim:Nat} {args:List aa} {H:ah}:au.runT ap (n+1) lim (.fn 64) args H=nK lim args H:=by
 have h:ap 64=some (.gW nK):=by kernel_rfl
 simp only [au.runT,h]
theorem XD {n lim:Nat} {args:List aa} {H:ah}:au.runT ap (n+1) lim (.fn 84) args H=nJ lim args H:=by
 have h:ap 84=some (.gW nJ):=by kernel_rfl
 simp only [au.runT,h]
theorem XE {n lim:Nat} {args:List aa} {H:ah}:au.runT ap (n+1) lim (.fn 81) args H=oV lim args H:=by
 have h:ap 81=some (.gW oV):=by kernel_rfl
 simp only [au.runT,h]
theorem xQ {n lim:Nat} {args:List aa} {H:ah}:au.runT ap (n+1) lim (.fn 17) args H=sC lim args H:=by
 have h:ap 17=some (.gW sC):=by kernel_rfl
 simp only [au.runT,h]
end Go.Proofs.YtfigbgjbaohglaaGreatDoor.bP
end
