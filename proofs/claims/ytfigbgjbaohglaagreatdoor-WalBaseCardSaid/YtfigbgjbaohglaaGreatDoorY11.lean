/- Parts of the proof. -/
import Derived.Test.YtfigbgjbaohglaaGreatDoorY8
import Derived.Test.YtfigbgjbaohglaaGreatDoorY7
set_option maxRecDepth 100000
set_option linter.unusedVariables false
namespace Go.Proofs.YtfigbgjbaohglaaGreatDoor.bP
open Go.au
def mI:List aa:=[(.int .u32 0),(.int .u32 0),(.int .u32 0),(.int .u32 0),(.int .u32 0),(.int .u32 0),(.int .u32 0),(.int .u32 0),(.int .u32 0),(.int .u32 0),(.int .u32 0),(.int .u32 0),(.int .u32 0),(.int .u32 0),(.int .u32 0),(.int .u32 0),(.int .u32 0),(.int .u32 0),(.int .u32 0),(.int .u32 0),(.int .u32 0),(.int .u32 0),(.int .u32 0),(.int .u32 0),(.int .u32 0),(.int .u32 0),(.int .u32 0),(.int .u32 0),(.int .u32 0),(.int .u32 0),(.int .u32 0),(.int .u32 0),(.int .u32 0),(.int .u32 0),(.int .u32 0),(.int .u32 0),(.int .u32 0),(.int .u32 0),(.int .u32 0),(.int .u32 0),(.int .u32 0),(.int .u32 0),(.int .u32 0),(.int .u32 0),(.int .u32 0),(.int .u32 0),(.int .u32 0),(.int .u32 0),(.int .u32 0),(.int .u32 0),(.int .u32 0),(.int .u32 0),(.int .u32 0),(.int .u32 0),(.int .u32 0),(.int .u32 0),(.int .u32 0),(.int .u32 0),(.int .u32 0),(.int .u32 0),(.int .u32 0),(.int .u32 0),(.int .u32 0),(.int .u32 0),(.int .u32 0),(.int .u32 0),(.int .u32 0),(.int .u32 0),(.int .u32 0),(.int .u32 0),(.int .u32 0),(.int .u32 0),(.int .u32 0),(.int .u32 0),(.int .u32 0),(.int .u32 0),(.int .u32 0),(.int .u32 0),(.int .u32 0),(.int .u32 0),(.int .u32 0),(.int .u32 0),(.int .u32 0),(.int .u32 0),(.int .u32 0),(.int .u32 0),(.int .u32 0),(.int .u32 0),(.int .u32 0),(.int .u32 0),(.int .u32 0),(.int .u32 0),(.int .u32 0),(.int .u32 0),(.int .u32 0),(.int .u32 0),(.int .u32 0),(.int .u32 0),(.int .u32 0),(.int .u32 0),(.int .u32 0),(.int .u32 0),(.int .u32 0),(.int .u32 0),(.int .u32 0),(.int .u32 0),(.int .u32 0),(.int .u32 0),(.int .u32 0),(.int .u32 0),(.int .u32 0),(.int .u32 0),(.int .u32 0),(.int .u32 0),(.int .u32 0),(.int .u32 0),(.int .u32 0),(.int .u32 0),(.int .u32 0),(.int .u32 0),(.int .u32 0),(.int .u32 0),(.int .u32 0),(.int .u32 0),(.int .u32 0),(.int .u32 0),(.int .u32 0),(.int .u32 0),(.int .u32 0),(.int .u32 0),(.int .u32 0),(.int .u32 0),(.int .u32 0),(.int .u32 0),(.int .u32 0),(.int .u32 0),(.int .u32 0),(.int .u32 0),(.int .u32 0),(.int .u32 0),(.int .u32 0),(.int .u32 0),(.int .u32 0),(.int .u32 0),(.int .u32 0),(.int .u32 0),(.int .u32 0),(.int .u32 0),(.int .u32 0),(.int .u32 0),(.int .u32 0),(.int .u32 0),(.int .u32 0),(.int .u32 0),(.int .u32 0),(.int .u32 0),(.int .u32 0),(.int .u32 0),(.int .u32 0),(.int .u32 0),(.int .u32 0),(.int .u32 0),(.int .u32 0),(.int .u32 0),(.int .u32 0),(.int .u32 0),(.int .u32 0),(.int .u32 0),(.int .u32 0),(.int .u32 0),(.int .u32 0),(.int .u32 0),(.int .u32 0),(.int .u32 0),(.int .u32 0),(.int .u32 0),(.int .u32 0),(.int .u32 0),(.int .u32 0),(.int .u32 0),(.int .u32 0),(.int .u32 0),(.int .u32 0),(.int .u32 0),(.int .u32 0),(.int .u32 0),(.int .u32 0),(.int .u32 0),(.int .u32 0),(.int .u32 0),(.int .u32 0),(.int .u32 0),(.int .u32 0),(.int .u32 0),(.int .u32 0),(.int .u32 0),(.int .u32 0),(.int .u32 0),(.int .u32 0),(.int .u32 0),(.int .u32 0),(.int .u32 0),(.int .u32 0),(.int .u32 0),(.int .u32 0),(.int .u32 0),(.int .u32 0),(.int .u32 0),(.int .u32 0),(.int .u32 0),(.int .u32 0),(.int .u32 0),(.int .u32 0),(.int .u32 0),(.int .u32 0),(.int .u32 0),(.int .u32 0),(.int .u32 0),(.int .u32 0),(.int .u32 0),(.int .u32 0),(.int .u32 0),(.int .u32 0),(.int .u32 0),(.int .u32 0),(.int .u32 0),(.int .u32 0),(.int .u32 0),(.int .u32 0),(.int .u32 0),(.int .u32 0),(.int .u32 0),(.int .u32 0),(.int .u32 0),(.int .u32 0),(.int .u32 0),(.int .u32 0),(.int .u32 0),(.int .u32 0),(.int .u32 0),(.int .u32 0),(.int .u32 0),(.int .u32 0),(.int .u32 0),(.int .u32 0),(.int .u32 0),(.int .u32 0),(.int .u32 0),(.int .u32 0),(.int .u32 0),(.int .u32 0),(.int .u32 0),(.int .u32 0),(.int .u32 0),(.int .u32 0),(.int .u32 0)]
def cV:List aa:=[(.int .u8 0),(.int .u64 0),(.int .u8 0),(.int .u64 0),(.int .u64 0),(.int .u8 0),(.int .u8 0),(.int .u8 0),(.int .u8 0),(.int .u8 0),(.int .u8 0),(.int .u8 0),(.int .u8 0),(.int .u8 0),(.int .u8 0),(.str [])]
def LV:List aa:=[(.map none),(.bool false),(.int .i64 0)]
def LW:List aa:=[(.ptr none),(.ptr none),(.int .u64 0),(.int .i64 0)]
def fP:List aa:=[(.sl none 0 (.ex 0)),(.int .i64 0),(.bool false),(.str [])]
def eW:List aa:=[(.int .u64 0),(.int .u64 0),(.int .u8 0),(.int .u8 0),(.int .u8 0),(.int .u8 0),(.int .u8 0),(.int .u8 0),(.int .u8 0),(.int .u8 0),(.int .u8 0),(.int .u8 0),(.str [])]
def AS:List aa:=[(.int .u64 0),(.int .u64 0)]
def Ff:List aa:=[(.int .u8 0),(.int .u8 0),(.int .u8 0),(.int .u8 0),(.int .u8 0),(.int .u8 0),(.int .u8 0),(.int .u8 0),(.int .u8 0),(.int .u8 0)]
def XF:List aa:=[(.int .u8 0),(.int .u8 0),(.int .u8 0),(.int .u8 0),(.int .u8 0),(.int .u8 0),(.int .u8 0),(.int .u8 0),(.int .u8 0),(.int .u8 0),(.int .u8 0),(.int .u8 0),(.int .u8 0),(.int .u8 0),(.int .u8 0),(.int .u8 0),(.int .u8 0),(.int .u8 0),(.int .u8 0),(.int .u8 0),(.int .u8 0),(.int .u8 0),(.int .u8 0),(.int .u8 0)]
def sD:List aa:=[(.int .u8 0),(.int .u8 0),(.int .u8 0),(.int .u8 0),(.int .u8 0),(.int .u8 0),(.int .u8 0),(.int .u8 0)]
def AT (R:aq) (lim n:Nat) (K:aa→ah→Prop) (t0 t9 t11 t12 t13 t16:aa) (H:ah):Prop:=
ak (aB H (some 2) t9) fun Fg=>
aK (R lim (.fn 24) [t11,Fg] H) fun v93 LX=>
aK (R lim (.fn 25) [t11] LX) fun LY Fh=>
aK (R lim (.fn 26) [t11,t12,(.int .u64 7)] Fh) fun uC uD=>
ak (bF 0 uC) fun Fi=>
ak (bF 1 uC) fun AU=>
ak (bF 2 uC) fun uE=>
ak (bF 3 uC) fun XG=>
ak (av .eql XG (.int .i64 0)) fun xR=>
ak (gd (some (xR,true)) (some uE)) fun Fj=>
ak (bH xR Fj (.bool false)) fun v105=>
ak (gd (some (v105,true)) (some Fi)) fun AV=>
ak (gd (some (v105,true)) (some t0)) fun v107=>
ak (gd (some (v105,true)) (av .eql AV v107)) fun AW=>
ak (bH v105 AW (.bool false)) fun v109=>
ak (gd (some (v109,true)) (some t13)) fun Fk=>
ak (gd (some (v109,true)) (some AU)) fun Fl=>
aK (eA (some (v109,true)) uD (R lim (.fn 27) [Fk,Fl] uD)) fun uF LZ=>
ak (bH v109 uF (.bool false)) fun uG=>
ak (gd (some (uG,true)) (some AU)) fun Fm=>
ak (gd (some (uG,true)) (some t16)) fun uH=>
aK (eA (some (uG,true)) LZ (R lim (.fn 27) [Fm,uH] LZ)) fun v117 L3=>
ak (bH uG v117 (.bool false)) fun AX=>
aK (eA (some (AX,true)) L3 (R lim (.fn 17) [] L3)) fun XH XI=>
ak (bH AX XH (.bool false)) fun Fo=>
K Fo XI
def mJ (R:aq) (lim n:Nat) (K:aa→ah→Prop) (ay:aa→aa→aa→aa→aa→aa→aa→aa→aa→ah→Prop) (t0 t2 t9 t11 t12 t13 t14 t16 t17:aa) (H:ah):Prop:=
ak (bh false t2) fun Fp=>
ak (av .lss t17 Fp) fun v124=>
ak (aV v124) fun L4=>
(L4=true→(ak (cD none 1 t2 t17) fun AY=>
ak (aB H none AY) fun v127=>
aK (R lim (.fn 15) [v127] H) fun XJ AZ=>
ak (aV XJ) fun L5=>
(L5=true→(aK (R lim (.fn 17) [] AZ) fun v131 XK=>
K v131 XK))∧
(L5=false→(ak (cD none 1 t2 t17) fun Fq=>
ak (aB AZ none Fq) fun oZ=>
aK (R lim (.fn 20) [oZ] AZ) fun A3 Fu=>
aK (R lim (.fn 23) [t14,A3] Fu) fun A4 uI=>
aK ((cU [] []).map fun cs=>(.sl (some (uI.next,0)) 0 (.ex 0),uI.push (.cells cs))) fun v139 XL=>
aK (fO lim XL cV 72 false v139 t13) fun v141 L6=>
aK (fO lim L6 cV 72 false v141 A3) fun v143 qK=>
ak (av .eql A4 (.int .i64 7)) fun v145=>
ak (aV v145) fun L7=>
(L7=true→(AT R lim n K t0 t9 t11 t12 t13 v143 qK))∧
(L7=false→(ak (av .neq A4 (.int .i64 0)) fun Fv=>
ak (aV Fv) fun L8=>
(L8=true→(K (.bool false) qK))∧
(L8=false→(ak (av .add t17 (.int .i64 1)) fun Fw=>
ay t0 t2 t9 t11 t12 v143 t14 v143 Fw qK))))))))∧
(L4=false→(AT R lim n K t0 t9 t11 t12 t13 t16 H))
def mK (R:aq) (lim n:Nat) (K:aa→ah→Prop):Nat→aa→aa→aa→aa→aa→aa→aa→aa→aa→ah→Prop
 | 0,_,_,_,_,_,_,_,_,_,_=>False
 | m+1,t0,t2,t9,t11,t12,t13,t14,t16,t17,H=>mJ R lim n K (mK R lim n K m) t0 t2 t9 t11 t12 t13 t14 t16 t17 H
def F3 (R:aq) (lim n:Nat) (K:aa→ah→Prop) (a0 a1 a2 a3 a4:aa) (H:ah):Prop:=
aK (if (a4).cells.all (·.one) then some (.ptr (some (H.next,0)),H.push (.cells (a4).cells)) else none) fun v1 H2=>
aK (R lim (.fn 15) [a1] H2) fun v3 H4=>
ak (gd (some (v3,false)) (some a2)) fun v5=>
ak (gd (some (v3,false)) (bh false v5)) fun v6=>
ak (gd (some (v3,false)) (av .gtr v6 (.int .i64 20))) fun v7=>
ak (bH v3 (.bool true) v7) fun v8=>
ak (gd (some (v8,false)) (aB H4 (some 2) v1)) fun v9=>
aK (eA (some (v8,false)) H4 (R lim (.fn 16) [v9] H4)) fun v10 dV=>
ak (bH v8 (.bool true) v10) fun v12=>
ak (aV v12) fun j4=>
(j4=true→(aK (R lim (.fn 17) [] dV) fun dw ia=>
K dw ia))∧
(j4=false→(aK (R lim (.fn 18) [] dV) fun cy j5=>
aK (R lim (.fn 19) [] j5) fun cW gr=>
ak (bp lim (gr.push (.cells mI)) 256 (.ptr (some (gr.next,0))) cW) fun eO=>
aK (R lim (.fn 20) [a1] eO) fun v21 fu=>
aK (R lim (.fn 21) [cy,(.ptr (some (gr.next,0))),(.int .u64 7),a0,v21] fu) fun v23 fJ=>
ak (bF 0 v23) fun v25=>
ak (bF 1 v23) fun v26=>
ak (av .neq v26 (.int .i64 0)) fun v27=>
ak (gd (some (v27,false)) (some v25)) fun v28=>
ak (gd (some (v27,false)) (dZ false .ptr v28 (.ptr none))) fun v29=>
ak (bH v27 (.bool true) v29) fun v30=>
ak (aV v30) fun j6=>
(j6=true→(K (.bool false) fJ))∧
(j6=false→(aK (R lim (.fn 22) [cy,a3] fJ) fun v32 j7=>
mK R lim n K n a0 a2 v1 cy (.ptr (some (gr.next,0))) v21 v25 v21 (.int .i64 0) j7))))
def A5 (R:aq) (lim n:Nat) (K:aa→ah→Prop):Nat→Tm→ah→Prop
 | 0,T,H=>mK R lim n K n (T 0) (T 2) (T 9) (T 11) (T 12) (T 13) (T 14) (T 16) (T 17) H
 | _,_,_=>False
def XM (R:aq) (lim n:Nat) (K:aa→ah→Prop) (ay:aa→aa→aa→aa→aa→aa→aa→aa→aa→ah→Prop):Nat→Tm→ah→Prop
 | _,_,_=>False
def L9 (R:aq) (lim n:Nat) (K:aa→ah→Prop) (ay:aa→aa→aa→aa→aa→aa→aa→aa→aa→ah→Prop):Kt:=fun ex T H=>match ex with
 | .norm=>ay (T 0) (T 2) (T 9) (T 11) (T 12) (T 13) (T 14) (T 16) (T 17) H
 | ex=>(bZ 0 (cE (aS R lim n 122 (A5 R lim n K) Ea) (aM [(.tmp 10)] K))) ex T H
theorem XN (R:aq) (lim n:Nat) (K:aa→ah→Prop) (ay:aa→aa→aa→aa→aa→aa→aa→aa→aa→ah→Prop) (T:Tm) (H:ah):mJ R lim n K ay (T 0) (T 2) (T 9) (T 11) (T 12) (T 13) (T 14) (T 16) (T 17) H=aS R lim n 122 (XM R lim n K ay) wW T H (L9 R lim n K ay):=by kernel_rfl
theorem Ma (R:aq) (lim n:Nat) (K:aa→ah→Prop) {kw:Kt} (hk:∀ex T H,(bZ 0 (cE (aS R lim n 122 (A5 R lim n K) Ea) (aM [(.tmp 10)] K))) ex T H→kw ex T H):∀(m:Nat) (T:Tm) (H:ah),mK R lim n K m (T 0) (T 2) (T 9) (T 11) (T 12) (T 13) (T 14) (T 16) (T 17) H→cH (cg R lim n 122 wW) m T H kw
 | 0,_,_,h=>False.elim h
 | m+1,T,H,h=>by
  have hb:∀ex T H,L9 R lim n K (mK R lim n K m) ex T H→(fun ex T H=>match ex with | .norm=>cH (cg R lim n 122 wW) m T H kw | ex=>kw ex T H:Kt) ex T H:=by
   intro ex T H h
   cases ex with
   | norm=>exact Ma R lim n K hk m T H h
   | exit i=>exact hk _ _ _ h
   | ret=>exact hk _ _ _ h
  have h':mJ R lim n K (mK R lim n K m) (T 0) (T 2) (T 9) (T 11) (T 12) (T 13) (T 14) (T 16) (T 17) H:=h
  rw [XN] at h'
  exact bw wW T H _ _ (aL (by kernel_rfl)) hb h'
theorem XO (R:aq) (lim n:Nat) (K:aa→ah→Prop) (a0 a1 a2 a3 a4:aa) (H:ah):F3 R lim n K a0 a1 a2 a3 a4 H=aS R lim n 122 (A5 R lim n K) f3.body (bS [a0,a1,a2,a3,a4]) H (aM [(.tmp 10)] K):=by kernel_rfl
theorem XP (R:aq) (lim n:Nat) (K:aa→ah→Prop):bO R lim n 122 (A5 R lim n K) f3.body (aM [(.tmp 10)] K):=⟨(aL (by kernel_rfl)),⟨(aL (by kernel_rfl)),⟨(aL (by kernel_rfl)),⟨(aL (by kernel_rfl)),⟨(aL (by kernel_rfl)),⟨(aL (by kernel_rfl)),⟨(aL (by kernel_rfl)),⟨(aL (by kernel_rfl)),⟨(aL (by kernel_rfl)),⟨⟨(aL (by kernel_rfl)),(fun T H h=>Ma R lim n K (eV (fX (aL (by kernel_rfl)) (fun _ _ _ h=>h))) _ T H h)⟩,(aL (by kernel_rfl))⟩⟩⟩⟩⟩⟩⟩⟩⟩⟩
theorem XQ {ap:FuncId→Option bg} (hf:ap 3=some (.code f3)) {n lim:Nat} {K:aa→ah→Prop} {a0 a1 a2 a3 a4:aa} {H:ah} (h:F3 (au.runT ap n) lim n K a0 a1 a2 a3 a4 H):∃v H',au.runT ap (n+1) lim (.fn 3) [a0,a1,a2,a3,a4] H=some (v,H')∧K v H':=by
 rw [XO] at h
 exact bX hf (by kernel_rfl) (by kernel_rfl) (bw f3.body _ _ _ _ (XP _ _ _ K) (fun _ _ _ h=>h) h)
def XS (R:aq) (lim n:Nat) (K:aa→ah→Prop) (t2 t7 t9 t10:aa) (H:ah):Prop:=
ak (aB H (some 2) t7) fun AU=>
aK (R lim (.fn 28) [t9,t2,AU] H) fun uE Mb=>
ak (bF 0 uE) fun xR=>
ak (bF 1 uE) fun Fj=>
ak (aB Mb (some 2) t7) fun v105=>
aK (R lim (.fn 28) [t10,t2,v105] Mb) fun AV Mc=>
ak (bF 0 AV) fun AW=>
ak (bF 1 AV) fun v109=>
ak (bh false xR) fun Fk=>
ak (bh false AW) fun Fl=>
ak (av .eql Fk Fl) fun uF=>
ak (gd (some (uF,true)) (some Fj)) fun XT=>
ak (gd (some (uF,true)) (some v109)) fun uG=>
ak (gd (some (uF,true)) (dZ false .bool XT uG)) fun Fm=>
ak (bH uF Fm (.bool false)) fun uH=>
ak (gd (some (uH,true)) (some xR)) fun v117=>
ak (gd (some (uH,true)) (some t9)) fun XU=>
aK (eA (some (uH,true)) Mc (R lim (.fn 27) [v117,XU] Mc)) fun AX Md=>
ak (bH uH AX (.bool false)) fun A6=>
ak (gd (some (A6,true)) (some AW)) fun Fo=>
ak (gd (some (A6,true)) (some t10)) fun Fp=>
aK (eA (some (A6,true)) Md (R lim (.fn 27) [Fo,Fp] Md)) fun v124 Me=>
ak (bH A6 v124 (.bool false)) fun AY=>
aK (eA (some (AY,true)) Me (R lim (.fn 17) [] Me)) fun v127 XV=>
ak (bH AY v127 (.bool false)) fun XW=>
K XW XV
def Mf (R:aq) (lim n:Nat) (K:aa→ah→Prop) (ay:aa→aa→aa→aa→aa→aa→ah→Prop) (t1 t2 t7 t9 t10 t11:aa) (H:ah):Prop:=
ak (av .add t11 (.int .i64 1)) fun XX=>
ay t1 t2 t7 t9 t10 XX H
def Fx (R:aq) (lim n:Nat) (K:aa→ah→Prop) (ay:aa→aa→aa→aa→aa→aa→ah→Prop) (t1 t2 t7 t9 t10 t11:aa) (H:ah):Prop:=
ak (bh false t10) fun v130=>
ak (av .lss t11 v130) fun v131=>
ak (aV v131) fun Mg=>
(Mg=true→(ak (bh false t1) fun Fq=>
ak (av .lss t11 Fq) fun oZ=>
ak (gd (some (oZ,true)) (some t1)) fun A3=>
ak (gd (some (oZ,true)) (some t11)) fun XY=>
ak (gd (some (oZ,true)) (cD none 1 A3 XY)) fun A4=>
ak (gd (some (oZ,true)) (aB H none A4)) fun v138=>
ak (gd (some (oZ,true)) (bh true v138)) fun v139=>
ak (gd (some (oZ,true)) (av .gtr v139 (.int .i64 200))) fun XZ=>
ak (bH oZ XZ (.bool false)) fun v141=>
ak (aV v141) fun Mh=>
(Mh=true→(aK (R lim (.fn 17) [] H) fun v143 qK=>
K v143 qK))∧
(Mh=false→(ak (bh false t1) fun v145=>
ak (av .lss t11 v145) fun v146=>
ak (gd (some (v146,true)) (some t10)) fun Fv=>
ak (gd (some (v146,true)) (some t11)) fun v148=>
ak (gd (some (v146,true)) (cD none 16 Fv v148)) fun Fw=>
ak (gd (some (v146,true)) (aU 0 Fw)) fun X0=>
ak (gd (some (v146,true)) (aB H none X0)) fun X1=>
ak (gd (some (v146,true)) (av .eql X1 (.int .u8 3))) fun v152=>
ak (bH v146 v152 (.bool false)) fun qL=>
ak (gd (some (qL,true)) (some t10)) fun v154=>
ak (gd (some (qL,true)) (some t11)) fun X2=>
ak (gd (some (qL,true)) (cD none 16 v154 X2)) fun X3=>
ak (gd (some (qL,true)) (aU 3 X3)) fun v157=>
ak (gd (some (qL,true)) (aU 2 v157)) fun X4=>
ak (gd (some (qL,true)) (aB H none X4)) fun v159=>
ak (gd (some (qL,true)) (av .geq v159 (.int .u8 3))) fun v160=>
ak (bH qL v160 (.bool false)) fun qM=>
ak (gd (some (qM,true)) (some t10)) fun v162=>
ak (gd (some (qM,true)) (some t11)) fun X5=>
ak (gd (some (qM,true)) (cD none 16 v162 X5)) fun v164=>
ak (gd (some (qM,true)) (aU 3 v164)) fun X6=>
ak (gd (some (qM,true)) (aU 2 X6)) fun X7=>
ak (gd (some (qM,true)) (aB H none X7)) fun v167=>
ak (gd (some (qM,true)) (av .leq v167 (.int .u8 4))) fun v168=>
ak (bH qM v168 (.bool false)) fun X8=>
ak (aV X8) fun Mi=>
(Mi=true→(ak (cD none 1 t1 t11) fun X9=>
ak (aB H none X9) fun v173=>
ak (cD none 16 t10 t11) fun Ya=>
ak (aU 3 Ya) fun v175=>
ak (aU 12 v175) fun Yb=>
ak (bp lim H 1 Yb v173) fun Yc=>
Mf R lim n K ay t1 t2 t7 t9 t10 t11 Yc))∧
(Mi=false→(Mf R lim n K ay t1 t2 t7 t9 t10 t11 H))))))∧
(Mg=false→(XS R lim n K t2 t7 t9 t10 H))
def uJ (R:aq) (lim n:Nat) (K:aa→ah→Prop):Nat→aa→aa→aa→aa→aa→aa→ah→Prop
 | 0,_,_,_,_,_,_,_=>False
 | m+1,t1,t2,t7,t9,t10,t11,H=>Fx R lim n K (uJ R lim n K m) t1 t2 t7 t9 t10 t11 H
def F4 (R:aq) (lim n:Nat) (K:aa→ah→Prop) (a0 a1 a2 a3:aa) (H:ah):Prop:=
aK (if (a3).cells.all (·.one) then some (.ptr (some (H.next,0)),H.push (.cells (a3).cells)) else none) fun v1 H2=>
aK (R lim (.fn 15) [a0] H2) fun v3 H4=>
ak (gd (some (v3,false)) (aB H4 (some 2) v1)) fun v5=>
aK (eA (some (v3,false)) H4 (R lim (.fn 16) [v5] H4)) fun v6 H7=>
ak (bH v3 (.bool true) v6) fun v8=>
ak (gd (some (v8,false)) (some a1)) fun v9=>
ak (gd (some (v8,false)) (bh false v9)) fun v10=>
ak (gd (some (v8,false)) (av .gtr v10 (.int .i64 40))) fun v11=>
ak (bH v8 (.bool true) v11) fun v12=>
ak (aV v12) fun j4=>
(j4=true→(aK (R lim (.fn 17) [] H7) fun dw ia=>
K dw ia))∧
(j4=false→(aK (R lim (.fn 20) [a0] H7) fun cy j5=>
aK ((cU [] []).map fun cs=>(.sl (some (j5.next,0)) 0 (.ex 0),j5.push (.cells cs))) fun cW gr=>
aK (fO lim gr cV 72 false cW cy) fun v20 gu=>
uJ R lim n K n a1 a2 v1 cy v20 (.int .i64 0) gu))
def A7 (R:aq) (lim n:Nat) (K:aa→ah→Prop):Nat→Tm→ah→Prop
 | 0,T,H=>uJ R lim n K n (T 1) (T 2) (T 7) (T 9) (T 10) (T 11) H
 | _,_,_=>False
def Yd (R:aq) (lim n:Nat) (K:aa→ah→Prop) (ay:aa→aa→aa→aa→aa→aa→ah→Prop):Nat→Tm→ah→Prop
 | _,_,_=>False
def Mj (R:aq) (lim n:Nat) (K:aa→ah→Prop) (ay:aa→aa→aa→aa→aa→aa→ah→Prop):Kt:=fun ex T H=>match ex with
 | .norm=>ay (T 1) (T 2) (T 7) (T 9) (T 10) (T 11) H
 | ex=>(bZ 0 (cE (aS R lim n 128 (A7 R lim n K) Eb) (aM [(.tmp 8)] K))) ex T H
theorem Ye (R:aq) (lim n:Nat) (K:aa→ah→Prop) (ay:aa→aa→aa→aa→aa→aa→ah→Prop) (T:Tm) (H:ah):Fx R lim n K ay (T 1) (T 2) (T 7) (T 9) (T 10) (T 11) H=aS R lim n 128 (Yd R lim n K ay) wX T H (Mj R lim n K ay):=by kernel_rfl
theorem Mk (R:aq) (lim n:Nat) (K:aa→ah→Prop) {kw:Kt} (hk:∀ex T H,(bZ 0 (cE (aS R lim n 128 (A7 R lim n K) Eb) (aM [(.tmp 8)] K))) ex T H→kw ex T H):∀(m:Nat) (T:Tm) (H:ah),uJ R lim n K m (T 1) (T 2) (T 7) (T 9) (T 10) (T 11) H→cH (cg R lim n 128 wX) m T H kw
 | 0,_,_,h=>False.elim h
 | m+1,T,H,h=>by
  have hb:∀ex T H,Mj R lim n K (uJ R lim n K m) ex T H→(fun ex T H=>match ex with | .norm=>cH (cg R lim n 128 wX) m T H kw | ex=>kw ex T H:Kt) ex T H:=by
   intro ex T H h
   cases ex with
   | norm=>exact Mk R lim n K hk m T H h
   | exit i=>exact hk _ _ _ h
   | ret=>exact hk _ _ _ h
  have h':Fx R lim n K (uJ R lim n K m) (T 1) (T 2) (T 7) (T 9) (T 10) (T 11) H:=h
  rw [Ye] at h'
  exact bw wX T H _ _ (aL (by kernel_rfl)) hb h'
theorem Yf (R:aq) (lim n:Nat) (K:aa→ah→Prop) (a0 a1 a2 a3:aa) (H:ah):F4 R lim n K a0 a1 a2 a3 H=aS R lim n 128 (A7 R lim n K) f4.body (bS [a0,a1,a2,a3]) H (aM [(.tmp 8)] K):=by kernel_rfl
theorem Yg (R:aq) (lim n:Nat) (K:aa→ah→Prop):bO R lim n 128 (A7 R lim n K) f4.body (aM [(.tmp 8)] K):=⟨(aL (by kernel_rfl)),⟨(aL (by kernel_rfl)),⟨(aL (by kernel_rfl)),⟨(aL (by kernel_rfl)),⟨⟨(aL (by kernel_rfl)),(fun T H h=>Mk R lim n K (eV (fX (aL (by kernel_rfl)) (fun _ _ _ h=>h))) _ T H h)⟩,(aL (by kernel_rfl))⟩⟩⟩⟩⟩
theorem agD {ap:FuncId→Option bg} (hf:ap 4=some (.code f4)) {n lim:Nat} {K:aa→ah→Prop} {a0 a1 a2 a3:aa} {H:ah} (h:F4 (au.runT ap n) lim n K a0 a1 a2 a3 H):∃v H',au.runT ap (n+1) lim (.fn 4) [a0,a1,a2,a3] H=some (v,H')∧K v H':=by
 rw [Yf] at h
 exact bX hf (by kernel_rfl) (by kernel_rfl) (bw f4.body _ _ _ _ (Yg _ _ _ K) (fun _ _ _ h=>h) h)
def F7 (R:aq) (lim n:Nat) (K:aa→ah→Prop) (a0 a1 a2 a3:aa) (H:ah):Prop:=
aK (if (a3).cells.all (·.one) then some (.ptr (some (H.next,0)),H.push (.cells (a3).cells)) else none) fun v1 H2=>
aK (R lim (.fn 15) [a1] H2) fun v3 H4=>
ak (gd (some (v3,false)) (aB H4 (some 2) v1)) fun v5=>
aK (eA (some (v3,false)) H4 (R lim (.fn 16) [v5] H4)) fun v6 H7=>
ak (bH v3 (.bool true) v6) fun v8=>
ak (aV v8) fun b9=>
(b9=true→(aK (R lim (.fn 17) [] H7) fun v10 dV=>
K v10 dV))∧
(b9=false→(aK (R lim (.fn 18) [] H7) fun v12 gM=>
aK (R lim (.fn 19) [] gM) fun dw ia=>
ak (bp lim (ia.push (.cells mI)) 256 (.ptr (some (ia.next,0))) dw) fun uK=>
aK (R lim (.fn 20) [a1] uK) fun cu mL=>
ak (av .rem a2 (.int .u8 50)) fun cz=>
ak (fo .i64 cz) fun v20=>
aK (R lim (.fn 22) [v12,v20] mL) fun v21 fu=>
aK (R lim (.fn 21) [v12,(.ptr (some (ia.next,0))),(.int .u64 7),a0,cu] fu) fun v23 fJ=>
ak (bF 0 v23) fun v25=>
ak (bF 1 v23) fun v26=>
ak (av .eql v26 (.int .i64 0)) fun v27=>
ak (aV v27) fun Ml=>
(Ml=true→(ak (av .rem a2 (.int .u8 50)) fun v29=>
ak (av .eql v29 (.int .u8 0)) fun v30=>
ak (gd (some (v30,false)) (some a2)) fun v31=>
ak (gd (some (v30,false)) (av .rem v31 (.int .u8 50))) fun v32=>
ak (gd (some (v30,false)) (fo .i64 v32)) fun v33=>
ak (gd (some (v30,false)) (some cu)) fun eX=>
ak (gd (some (v30,false)) (bh false eX)) fun v35=>
ak (gd (some (v30,false)) (av .add v35 (.int .i64 2))) fun v36=>
ak (gd (some (v30,false)) (av .gtr v33 v36)) fun v37=>
ak (bH v30 (.bool true) v37) fun eY=>
aK (eA (some (eY,true)) fJ (R lim (.fn 17) [] fJ)) fun eo A8=>
ak (bH eY eo (.bool false)) fun v41=>
K v41 A8))∧
(Ml=false→(ak (aB fJ (some 2) v1) fun gw=>
aK (R lim (.fn 24) [v12,gw] fJ) fun fQ nL=>
aK (R lim (.fn 25) [v12] nL) fun gN Fy=>
aK (R lim (.fn 26) [v12,(.ptr (some (ia.next,0))),(.int .u64 7)] Fy) fun gx o8=>
ak (bF 0 gx) fun v49=>
ak (bF 1 gx) fun fR=>
ak (bF 2 gx) fun v51=>
ak (bF 3 gx) fun gy=>
ak (av .neq v26 (.int .i64 7)) fun v53=>
ak (gd (some (v53,false)) (some gy)) fun iO=>
ak (gd (some (v53,false)) (av .neq iO (.int .i64 0))) fun mM=>
ak (gd (some (v53,false)) (some mM)) fun jg=>
ak (gd (some (jg,true)) (some gy)) fun v57=>
ak (gd (some (jg,true)) (av .neq v57 (.int .i64 4))) fun j8=>
ak (gd (some (v53,false)) (bH jg j8 (.bool false))) fun v59=>
ak (bH v53 (.bool true) v59) fun jL=>
ak (gd (some (jL,false)) (some gy)) fun j9=>
ak (gd (some (jL,false)) (av .eql j9 (.int .i64 4))) fun sE=>
ak (gd (some (jL,false)) (some sE)) fun v63=>
ak (gd (some (v63,true)) (some v12)) fun v64=>
aK (eA (some (v63,true)) o8 (R lim (.fn 34) [v64] o8)) fun o9 A9=>
ak (gd (some (v63,true)) (bh false o9)) fun qN=>
ak (gd (some (v63,true)) (av .neq qN (.int .i64 0))) fun sF=>
ak (gd (some (jL,false)) (bH v63 sF (.bool false))) fun sG=>
ak (bH jL (.bool true) sG) fun v70=>
ak (aV v70) fun Mm=>
(Mm=true→(K (.bool false) A9))∧
(Mm=false→(aK (R lim (.fn 27) [fR,cu] A9) fun v72 Mn=>
ak (gd (some (v72,true)) (some v51)) fun FA=>
ak (gd (some (v72,true)) (some gy)) fun v75=>
ak (gd (some (v72,true)) (av .eql v75 (.int .i64 0))) fun v76=>
ak (gd (some (v72,true)) (some v76)) fun uL=>
ak (gd (some (uL,true)) (some fR)) fun Yh=>
ak (gd (some (uL,true)) (bh false Yh)) fun Yi=>
ak (gd (some (uL,true)) (some cu)) fun Yj=>
ak (gd (some (uL,true)) (bh false Yj)) fun Yk=>
ak (gd (some (uL,true)) (av .eql Yi Yk)) fun Yl=>
ak (gd (some (v72,true)) (bH uL Yl (.bool false))) fun Ym=>
ak (gd (some (v72,true)) (some Ym)) fun FB=>
ak (gd (some (FB,true)) (some v12)) fun v85=>
aK (eA (some (FB,true)) Mn (R lim (.fn 38) [v85] Mn)) fun Yn Mo=>
ak (gd (some (v72,true)) (bH FB Yn (.bool false))) fun Yo=>
ak (gd (some (v72,true)) (dZ false .bool FA Yo)) fun Yp=>
ak (bH v72 Yp (.bool false)) fun xS=>
ak (gd (some (xS,true)) (some v51)) fun v91=>
ak (gd (some (xS,true)) (fE .not v91)) fun Fg=>
ak (gd (some (xS,true)) (some Fg)) fun v93=>
ak (gd (some (v93,false)) (some v49)) fun Yq=>
ak (gd (some (v93,false)) (some a0)) fun LY=>
ak (gd (some (v93,false)) (av .eql Yq LY)) fun Yr=>
ak (gd (some (xS,true)) (bH v93 (.bool true) Yr)) fun uC=>
ak (bH xS uC (.bool false)) fun Mq=>
aK (eA (some (Mq,true)) Mo (R lim (.fn 17) [] Mo)) fun Fi Ys=>
ak (bH Mq Fi (.bool false)) fun uE=>
K uE Ys))))))
def Mr (R:aq) (lim n:Nat) (K:aa→ah→Prop):Nat→Tm→ah→Prop
 | _,_,_=>False
theorem Yt (R:aq) (lim n:Nat) (K:aa→ah→Prop) (a0 a1 a2 a3:aa) (H:ah):F7 R lim n K a0 a1 a2 a3 H=aS R lim n 122 (Mr R lim n K) f7.body (bS [a0,a1,a2,a3]) H (aM [(.tmp 8)] K):=by kernel_rfl
theorem Yu (R:aq) (lim n:Nat) (K:aa→ah→Prop):bO R lim n 122 (Mr R lim n K) f7.body (aM [(.tmp 8)] K):=(aL (by kernel_rfl))
theorem agE {ap:FuncId→Option bg} (hf:ap 7=some (.code f7)) {n lim:Nat} {K:aa→ah→Prop} {a0 a1 a2 a3:aa} {H:ah} (h:F7 (au.runT ap n) lim n K a0 a1 a2 a3 H):∃v H',au.runT ap (n+1) lim (.fn 7) [a0,a1,a2,a3] H=some (v,H')∧K v H':=by
 rw [Yt] at h
 exact bX hf (by kernel_rfl) (by kernel_rfl) (bw f7.body _ _ _ _ (Yu _ _ _ K) (fun _ _ _ h=>h) h)
def Ms (R:aq) (lim n:Nat) (K:aa→ah→Prop) (H:ah):Prop:=
K (.bool false) H
def xT (R:aq) (lim n:Nat) (K:aa→ah→Prop) (ay:aa→aa→ah→Prop) (t0 t3:aa) (H:ah):Prop:=
ak (bh false t0) fun cY=>
ak (av .lss t3 cY) fun cy=>
ak (aV cy) fun mN=>
(mN=true→(ak (cD none 16 t0 t3) fun cW=>
ak (aU 3 cW) fun cz=>
ak (aU 12 cz) fun v20=>
ak (aB H none v20) fun v21=>
ak (bh true v21) fun v22=>
ak (av .gtr v22 (.int .i64 200)) fun v23=>
ak (aV v23) fun mO=>
(mO=true→(K (.bool true) H))∧
(mO=false→(ak (av .add t3 (.int .i64 1)) fun v25=>
ay t0 v25 H))))∧
(mN=false→(Ms R lim n K H))
def qO (R:aq) (lim n:Nat) (K:aa→ah→Prop):Nat→aa→aa→ah→Prop
 | 0,_,_,_=>False
 | m+1,t0,t3,H=>xT R lim n K (qO R lim n K m) t0 t3 H
def FC (R:aq) (lim n:Nat) (K:aa→ah→Prop) (a0:aa) (H:ah):Prop:=
ak (bh false a0) fun v1=>
ak (av .gtr v1 (.int .i64 40)) fun v2=>
ak (aV v2) fun b3=>
(b3=true→(K (.bool true) H))∧
(b3=false→(qO R lim n K n a0 (.int .i64 0) H))
def Ba (R:aq) (lim n:Nat) (K:aa→ah→Prop):Nat→Tm→ah→Prop
 | 0,T,H=>qO R lim n K n (T 0) (T 3) H
 | _,_,_=>False
def Yv (R:aq) (lim n:Nat) (K:aa→ah→Prop) (ay:aa→aa→ah→Prop):Nat→Tm→ah→Prop
 | _,_,_=>False
def Mt (R:aq) (lim n:Nat) (K:aa→ah→Prop) (ay:aa→aa→ah→Prop):Kt:=fun ex T H=>match ex with
 | .norm=>ay (T 0) (T 3) H
 | ex=>(bZ 0 (cE (aS R lim n 21 (Ba R lim n K) Ec) (aM [(.tmp 2)] K))) ex T H
theorem Yw (R:aq) (lim n:Nat) (K:aa→ah→Prop) (ay:aa→aa→ah→Prop) (T:Tm) (H:ah):xT R lim n K ay (T 0) (T 3) H=aS R lim n 21 (Yv R lim n K ay) wY T H (Mt R lim n K ay):=by kernel_rfl
theorem Mu (R:aq) (lim n:Nat) (K:aa→ah→Prop) {kw:Kt} (hk:∀ex T H,(bZ 0 (cE (aS R lim n 21 (Ba R lim n K) Ec) (aM [(.tmp 2)] K))) ex T H→kw ex T H):∀(m:Nat) (T:Tm) (H:ah),qO R lim n K m (T 0) (T 3) H→cH (cg R lim n 21 wY) m T H kw
 | 0,_,_,h=>False.elim h
 | m+1,T,H,h=>by
  have hb:∀ex T H,Mt R lim n K (qO R lim n K m) ex T H→(fun ex T H=>match ex with | .norm=>cH (cg R lim n 21 wY) m T H kw | ex=>kw ex T H:Kt) ex T H:=by
   intro ex T H h
   cases ex with
   | norm=>exact Mu R lim n K hk m T H h
   | exit i=>exact hk _ _ _ h
   | ret=>exact hk _ _ _ h
  have h':xT R lim n K (qO R lim n K m) (T 0) (T 3) H:=h
  rw [Yw] at h'
  exact bw wY T H _ _ (aL (by kernel_rfl)) hb h'
theorem Yx (R:aq) (lim n:Nat) (K:aa→ah→Prop) (a0:aa) (H:ah):FC R lim n K a0 H=aS R lim n 21 (Ba R lim n K) f15.body (bS [a0]) H (aM [(.tmp 2)] K):=by kernel_rfl
theorem Yy (R:aq) (lim n:Nat) (K:aa→ah→Prop):bO R lim n 21 (Ba R lim n K) f15.body (aM [(.tmp 2)] K):=⟨(aL (by kernel_rfl)),⟨(aL (by kernel_rfl)),⟨⟨(aL (by kernel_rfl)),(fun T H h=>Mu R lim n K (eV (fX (aL (by kernel_rfl)) (fun _ _ _ h=>h))) _ T H h)⟩,(aL (by kernel_rfl))⟩⟩⟩
theorem Yz {ap:FuncId→Option bg} (hf:ap 15=some (.code f15)) {n lim:Nat} {K:aa→ah→Prop} {a0:aa} {H:ah} (h:FC (au.runT ap n) lim n K a0 H):∃v H',au.runT ap (n+1) lim (.fn 15) [a0] H=some (v,H')∧K v H':=by
 rw [Yx] at h
 exact bX hf (by kernel_rfl) (by kernel_rfl) (bw f15.body _ _ _ _ (Yy _ _ _ K) (fun _ _ _ h=>h) h)
def FD (R:aq) (lim n:Nat) (K:aa→ah→Prop) (a0:aa) (H:ah):Prop:=
aK (if (a0).cells.all (·.one) then some (.ptr (some (H.next,0)),H.push (.cells (a0).cells)) else none) fun v1 H2=>
ak (aU 0 v1) fun v3=>
ak (aB H2 none v3) fun v4=>
ak (bh false v4) fun v5=>
ak (av .gtr v5 (.int .i64 60)) fun v6=>
ak (gd (some (v6,false)) (aU 1 v1)) fun v7=>
ak (gd (some (v6,false)) (aB H2 none v7)) fun v8=>
ak (gd (some (v6,false)) (bh false v8)) fun v9=>
ak (gd (some (v6,false)) (av .gtr v9 (.int .i64 60))) fun v10=>
ak (bH v6 (.bool true) v10) fun v11=>
K v11 H2
def Mv (R:aq) (lim n:Nat) (K:aa→ah→Prop):Nat→Tm→ah→Prop
 | _,_,_=>False
theorem YA (R:aq) (lim n:Nat) (K:aa→ah→Prop) (a0:aa) (H:ah):FD R lim n K a0 H=aS R lim n 13 (Mv R lim n K) f16.body (bS [a0]) H (aM [(.tmp 2)] K):=by kernel_rfl
theorem YB (R:aq) (lim n:Nat) (K:aa→ah→Prop):bO R lim n 13 (Mv R lim n K) f16.body (aM [(.tmp 2)] K):=(aL (by kernel_rfl))
theorem YC {ap:FuncId→Option bg} (hf:ap 16=some (.code f16)) {n lim:Nat} {K:aa→ah→Prop} {a0:aa} {H:ah} (h:FD (au.runT ap n) lim n K a0 H):∃v H',au.runT ap (n+1) lim (.fn 16) [a0] H=some (v,H')∧K v H':=by
 rw [YA] at h
 exact bX hf (by kernel_rfl) (by kernel_rfl) (bw f16.body _ _ _ _ (YB _ _ _ K) (fun _ _ _ h=>h) h)
def FE (R:aq) (lim n:Nat) (K:aa→ah→Prop) (H:ah):Prop:=
aK (if vu none then some (.map (some H.next),H.push (.map [] ⟨0,[]⟩)) else none) fun v1 H2=>
ak (fW LV [(0,1,v1)]) fun v3=>
aK (if (v3).cells.all (·.one) then some (.ptr (some (H2.next,0)),H2.push (.cells (v3).cells)) else none) fun v4 H5=>
K v4 H5
def Mw (R:aq) (lim n:Nat) (K:aa→ah→Prop):Nat→Tm→ah→Prop
 | _,_,_=>False
theorem YD (R:aq) (lim n:Nat) (K:aa→ah→Prop) (H:ah):FE R lim n K  H=aS R lim n 4 (Mw R lim n K) f18.body (bS []) H (aM [(.tmp 0)] K):=by kernel_rfl
theorem YE (R:aq) (lim n:Nat) (K:aa→ah→Prop):bO R lim n 4 (Mw R lim n K) f18.body (aM [(.tmp 0)] K):=(aL (by kernel_rfl))
theorem YF {ap:FuncId→Option bg} (hf:ap 18=some (.code f18)) {n lim:Nat} {K:aa→ah→Prop} {H:ah} (h:FE (au.runT ap n) lim n K  H):∃v H',au.runT ap (n+1) lim (.fn 18) [] H=some (v,H')∧K v H':=by
 rw [YD] at h
 exact bX hf (by kernel_rfl) (by kernel_rfl) (bw f18.body _ _ _ _ (YE _ _ _ K) (fun _ _ _ h=>h) h)
def Mx (R:aq) (lim n:Nat) (K:aa→ah→Prop) (t0 t1:aa) (H:ah):Prop:=
ak (aB H (some 256) t1) fun v27=>
ak (bp lim H 256 t0 v27) fun gO=>
ak (aB gO (some 256) t0) fun v29=>
K v29 gO
def My (R:aq) (lim n:Nat) (K:aa→ah→Prop) (ay:aa→aa→aa→ah→Prop) (t0 t1 t2 t3 t4:aa) (H:ah):Prop:=
ak (cD (some 256) 1 t1 t2) fun fQ=>
ak (bp lim H 1 fQ t3) fun nL=>
ak (av .add t4 (.int .i64 1)) fun gN=>
ay t0 t1 gN nL
def sH (R:aq) (lim n:Nat) (K:aa→ah→Prop) (ay:aa→aa→aa→ah→Prop) (fy:aa→aa→aa→aa→aa→aa→ah→Prop) (t0 t1 t2 t3 t4 t9:aa) (H:ah):Prop:=
ak (av .lss t9 (.int .i64 8)) fun v46=>
ak (aV v46) fun xU=>
(xU=true→(ak (av .shr t3 (.int .u64 1)) fun fZ=>
ak (av .and t3 (.int .u32 1)) fun v49=>
ak (av .mul (.int .u32 2197175160) v49) fun fR=>
ak (av .xor fZ fR) fun v51=>
ak (av .add t9 (.int .i64 1)) fun gy=>
fy t0 t1 t2 v51 t4 gy H))∧
(xU=false→(My R lim n K ay t0 t1 t2 t3 t4 H))
def pe (R:aq) (lim n:Nat) (K:aa→ah→Prop) (ay:aa→aa→aa→ah→Prop):Nat→aa→aa→aa→aa→aa→aa→ah→Prop
 | 0,_,_,_,_,_,_,_=>False
 | m+1,t0,t1,t2,t3,t4,t9,H=>sH R lim n K ay (pe R lim n K ay m) t0 t1 t2 t3 t4 t9 H
def sI (R:aq) (lim n:Nat) (K:aa→ah→Prop) (ay:aa→aa→aa→ah→Prop) (t0 t1 t4:aa) (H:ah):Prop:=
ak (av .lss t4 (.int .i64 256)) fun v30=>
ak (aV v30) fun j6=>
(j6=true→(ak (fo .u32 t4) fun v32=>
pe R lim n K ay n t0 t1 t4 v32 t4 (.int .i64 0) H))∧
(j6=false→(Mx R lim n K t0 t1 H))
def nM (R:aq) (lim n:Nat) (K:aa→ah→Prop):Nat→aa→aa→aa→ah→Prop
 | 0,_,_,_,_=>False
 | m+1,t0,t1,t4,H=>sI R lim n K (nM R lim n K m) t0 t1 t4 H
def FF (R:aq) (lim n:Nat) (K:aa→ah→Prop) (H:ah):Prop:=
nM R lim n K n (.ptr (some (H.next,0))) (.ptr (some ((H.push (.cells mI)).next,0))) (.int .i64 0) ((H.push (.cells mI)).push (.cells mI))
def Bb (R:aq) (lim n:Nat) (K:aa→ah→Prop):Nat→Tm→ah→Prop
 | 0,T,H=>nM R lim n K n (T 0) (T 1) (T 4) H
 | _,_,_=>False
def xV (R:aq) (lim n:Nat) (K:aa→ah→Prop) (ay:aa→aa→aa→ah→Prop):Nat→Tm→ah→Prop
 | 2,T,H=>pe R lim n K ay n (T 0) (T 1) (T 2) (T 3) (T 4) (T 9) H
 | _,_,_=>False
def YG (R:aq) (lim n:Nat) (K:aa→ah→Prop) (ay:aa→aa→aa→ah→Prop) (fy:aa→aa→aa→aa→aa→aa→ah→Prop):Nat→Tm→ah→Prop
 | _,_,_=>False
def Bc (R:aq) (lim n:Nat) (K:aa→ah→Prop) (ay:aa→aa→aa→ah→Prop):Kt:=fun ex T H=>match ex with
 | .norm=>ay (T 0) (T 1) (T 4) H
 | ex=>(bZ 0 (cE (aS R lim n 23 (Bb R lim n K) Ee) (aM [(.cell 0 (some 256))] K))) ex T H
def Mz (R:aq) (lim n:Nat) (K:aa→ah→Prop) (ay:aa→aa→aa→ah→Prop) (fy:aa→aa→aa→aa→aa→aa→ah→Prop):Kt:=fun ex T H=>match ex with
 | .norm=>fy (T 0) (T 1) (T 2) (T 3) (T 4) (T 9) H
 | ex=>(bZ 2 (cE (aS R lim n 23 (xV R lim n K ay) Ef) (bZ 1 (cE (aS R lim n 23 (xV R lim n K ay) Ed) (Bc R lim n K ay))))) ex T H
theorem YH (R:aq) (lim n:Nat) (K:aa→ah→Prop) (ay:aa→aa→aa→ah→Prop) (fy:aa→aa→aa→aa→aa→aa→ah→Prop) (T:Tm) (H:ah):sH R lim n K ay fy (T 0) (T 1) (T 2) (T 3) (T 4) (T 9) H=aS R lim n 23 (YG R lim n K ay fy) wZ T H (Mz R lim n K ay fy):=by kernel_rfl
theorem MA (R:aq) (lim n:Nat) (K:aa→ah→Prop) (ay:aa→aa→aa→ah→Prop) {kw:Kt} (hk:∀ex T H,(bZ 2 (cE (aS R lim n 23 (xV R lim n K ay) Ef) (bZ 1 (cE (aS R lim n 23 (xV R lim n K ay) Ed) (Bc R lim n K ay))))) ex T H→kw ex T H):∀(m:Nat) (T:Tm) (H:ah),pe R lim n K ay m (T 0) (T 1) (T 2) (T 3) (T 4) (T 9) H→cH (cg R lim n 23 wZ) m T H kw
 | 0,_,_,h=>False.elim h
 | m+1,T,H,h=>by
  have hb:∀ex T H,Mz R lim n K ay (pe R lim n K ay m) ex T H→(fun ex T H=>match ex with | .norm=>cH (cg R lim n 23 wZ) m T H kw | ex=>kw ex T H:Kt) ex T H:=by
   intro ex T H h
   cases ex with
   | norm=>exact MA R lim n K ay hk m T H h
   | exit i=>exact hk _ _ _ h
   | ret=>exact hk _ _ _ h
  have h':sH R lim n K ay (pe R lim n K ay m) (T 0) (T 1) (T 2) (T 3) (T 4) (T 9) H:=h
  rw [YH] at h'
  exact bw wZ T H _ _ (aL (by kernel_rfl)) hb h'
theorem YI (R:aq) (lim n:Nat) (K:aa→ah→Prop) (ay:aa→aa→aa→ah→Prop) (T:Tm) (H:ah):sI R lim n K ay (T 0) (T 1) (T 4) H=aS R lim n 23 (xV R lim n K ay) w8 T H (Bc R lim n K ay):=by kernel_rfl
theorem MB (R:aq) (lim n:Nat) (K:aa→ah→Prop) {kw:Kt} (hk:∀ex T H,(bZ 0 (cE (aS R lim n 23 (Bb R lim n K) Ee) (aM [(.cell 0 (some 256))] K))) ex T H→kw ex T H):∀(m:Nat) (T:Tm) (H:ah),nM R lim n K m (T 0) (T 1) (T 4) H→cH (cg R lim n 23 w8) m T H kw
 | 0,_,_,h=>False.elim h
 | m+1,T,H,h=>by
  have hb:∀ex T H,Bc R lim n K (nM R lim n K m) ex T H→(fun ex T H=>match ex with | .norm=>cH (cg R lim n 23 w8) m T H kw | ex=>kw ex T H:Kt) ex T H:=by
   intro ex T H h
   cases ex with
   | norm=>exact MB R lim n K hk m T H h
   | exit i=>exact hk _ _ _ h
   | ret=>exact hk _ _ _ h
  have h':sI R lim n K (nM R lim n K m) (T 0) (T 1) (T 4) H:=h
  rw [YI] at h'
  exact bw w8 T H _ _ ⟨(aL (by kernel_rfl)),⟨(aL (by kernel_rfl)),⟨⟨(aL (by kernel_rfl)),⟨(aL (by kernel_rfl)),⟨⟨(aL (by kernel_rfl)),(fun T H h=>MA R lim n K (nM R lim n K m) (eV (fX (aL (by kernel_rfl)) (eV (fX (aL (by kernel_rfl)) (hb))))) _ T H h)⟩,(aL (by kernel_rfl))⟩⟩⟩,(aL (by kernel_rfl))⟩⟩⟩ hb h'
theorem YJ (R:aq) (lim n:Nat) (K:aa→ah→Prop) (H:ah):FF R lim n K  H=aS R lim n 23 (Bb R lim n K) f19.body (bS []) H (aM [(.cell 0 (some 256))] K):=by kernel_rfl
theorem YK (R:aq) (lim n:Nat) (K:aa→ah→Prop):bO R lim n 23 (Bb R lim n K) f19.body (aM [(.cell 0 (some 256))] K):=⟨(aL (by kernel_rfl)),⟨(aL (by kernel_rfl)),⟨⟨(aL (by kernel_rfl)),(fun T H h=>MB R lim n K (eV (fX (aL (by kernel_rfl)) (fun _ _ _ h=>h))) _ T H h)⟩,(aL (by kernel_rfl))⟩⟩⟩
theorem YL {ap:FuncId→Option bg} (hf:ap 19=some (.code f19)) {n lim:Nat} {K:aa→ah→Prop} {H:ah} (h:FF (au.runT ap n) lim n K  H):∃v H',au.runT ap (n+1) lim (.fn 19) [] H=some (v,H')∧K v H':=by
 rw [YJ] at h
 exact bX hf (by kernel_rfl) (by kernel_rfl) (bw f19.body _ _ _ _ (YK _ _ _ K) (fun _ _ _ h=>h) h)
def MC (R:aq) (lim n:Nat) (K:aa→ah→Prop) (t3:aa) (H:ah):Prop:=
K t3 H
def Bd (R:aq) (lim n:Nat) (K:aa→ah→Prop) (ay:aa→aa→aa→ah→Prop) (t0 t3 t4:aa) (H:ah):Prop:=
ak (av .add t4 (.int .i64 1)) fun v23=>
ay t0 t3 v23 H
def xW (R:aq) (lim n:Nat) (K:aa→ah→Prop) (ay:aa→aa→aa→ah→Prop) (t0 t3 t4:aa) (H:ah):Prop:=
ak (bh false t0) fun cy=>
ak (av .lss t4 cy) fun cu=>
ak (aV cu) fun mP=>
(mP=true→(ak (cD none 16 t0 t4) fun cz=>
ak (aB H (some 16) cz) fun v20=>
aK (R lim (.fn 66) [v20] H) fun v21 fu=>
ak (aV v21) fun mO=>
(mO=true→(ak (cD none 16 t0 t4) fun v25=>
ak (aB fu (some 16) v25) fun v26=>
aK ((cU cV [(0,16,v26)]).map fun cs=>(.sl (some (fu.next,0)) 1 (.ex 1),fu.push (.cells cs))) fun v27 gO=>
aK (fO lim gO cV 72 false t3 v27) fun v29 FG=>
Bd R lim n K ay t0 v29 t4 FG))∧
(mO=false→(Bd R lim n K ay t0 t3 t4 fu))))∧
(mP=false→(MC R lim n K t3 H))
def qP (R:aq) (lim n:Nat) (K:aa→ah→Prop):Nat→aa→aa→aa→ah→Prop
 | 0,_,_,_,_=>False
 | m+1,t0,t3,t4,H=>xW R lim n K (qP R lim n K m) t0 t3 t4 H
def FH (R:aq) (lim n:Nat) (K:aa→ah→Prop) (a0:aa) (H:ah):Prop:=
qP R lim n K n a0 (.sl none 0 (.ex 0)) (.int .i64 0) H
def Be (R:aq) (lim n:Nat) (K:aa→ah→Prop):Nat→Tm→ah→Prop
 | 0,T,H=>qP R lim n K n (T 0) (T 3) (T 4) H
 | _,_,_=>False
def YM (R:aq) (lim n:Nat) (K:aa→ah→Prop) (ay:aa→aa→aa→ah→Prop):Nat→Tm→ah→Prop
 | _,_,_=>False
def MD (R:aq) (lim n:Nat) (K:aa→ah→Prop) (ay:aa→aa→aa→ah→Prop):Kt:=fun ex T H=>match ex with
 | .norm=>ay (T 0) (T 3) (T 4) H
 | ex=>(bZ 0 (cE (aS R lim n 24 (Be R lim n K) Eg) (aM [(.tmp 2)] K))) ex T H
theorem YN (R:aq) (lim n:Nat) (K:aa→ah→Prop) (ay:aa→aa→aa→ah→Prop) (T:Tm) (H:ah):xW R lim n K ay (T 0) (T 3) (T 4) H=aS R lim n 24 (YM R lim n K ay) xd T H (MD R lim n K ay):=by kernel_rfl
theorem ME (R:aq) (lim n:Nat) (K:aa→ah→Prop) {kw:Kt} (hk:∀ex T H,(bZ 0 (cE (aS R lim n 24 (Be R lim n K) Eg) (aM [(.tmp 2)] K))) ex T H→kw ex T H):∀(m:Nat) (T:Tm) (H:ah),qP R lim n K m (T 0) (T 3) (T 4) H→cH (cg R lim n 24 xd) m T H kw
 | 0,_,_,h=>False.elim h
 | m+1,T,H,h=>by
  have hb:∀ex T H,MD R lim n K (qP R lim n K m) ex T H→(fun ex T H=>match ex with | .norm=>cH (cg R lim n 24 xd) m T H kw | ex=>kw ex T H:Kt) ex T H:=by
   intro ex T H h
   cases ex with
   | norm=>exact ME R lim n K hk m T H h
   | exit i=>exact hk _ _ _ h
   | ret=>exact hk _ _ _ h
  have h':xW R lim n K (qP R lim n K m) (T 0) (T 3) (T 4) H:=h
  rw [YN] at h'
  exact bw xd T H _ _ (aL (by kernel_rfl)) hb h'
theorem YO (R:aq) (lim n:Nat) (K:aa→ah→Prop) (a0:aa) (H:ah):FH R lim n K a0 H=aS R lim n 24 (Be R lim n K) f20.body (bS [a0]) H (aM [(.tmp 2)] K):=by kernel_rfl
theorem YP (R:aq) (lim n:Nat) (K:aa→ah→Prop):bO R lim n 24 (Be R lim n K) f20.body (aM [(.tmp 2)] K):=⟨(aL (by kernel_rfl)),⟨(aL (by kernel_rfl)),⟨⟨(aL (by kernel_rfl)),(fun T H h=>ME R lim n K (eV (fX (aL (by kernel_rfl)) (fun _ _ _ h=>h))) _ T H h)⟩,(aL (by kernel_rfl))⟩⟩⟩
theorem YQ {ap:FuncId→Option bg} (hf:ap 20=some (.code f20)) {n lim:Nat} {K:aa→ah→Prop} {a0:aa} {H:ah} (h:FH (au.runT ap n) lim n K a0 H):∃v H',au.runT ap (n+1) lim (.fn 20) [a0] H=some (v,H')∧K v H':=by
 rw [YO] at h
 exact bX hf (by kernel_rfl) (by kernel_rfl) (bw f20.body _ _ _ _ (YP _ _ _ K) (fun _ _ _ h=>h) h)
def FI (R:aq) (lim n:Nat) (K:aa→ah→Prop) (a0 a1 a2 a3 a4:aa) (H:ah):Prop:=
aK (R lim (.fn 67) [a0,a1] H) fun v1 H2=>
ak (av .neq v1 (.int .i64 0)) fun v3=>
ak (aV v3) fun b4=>
(b4=true→(K (.bq [(.ptr none),v1]) H2))∧
(b4=false→(aK (R lim (.fn 64) [a0] H2) fun v5 H6=>
aK (R lim (.fn 31) [a2] H6) fun v7 H8=>
aK (R lim (.fn 68) [v5,v7] H8) fun v9 qQ=>
ak (aV v9) fun MF=>
(MF=true→(K (.bq [(.ptr none),(.int .i64 5)]) qQ))∧
(MF=false→(aK (R lim (.fn 69) [a4] qQ) fun v12 gM=>
ak (bF 0 v12) fun dw=>
ak (bF 1 v12) fun cY=>
ak (fE .not cY) fun cy=>
ak (aV cy) fun mN=>
(mN=true→(K (.bq [(.ptr none),(.int .i64 1)]) gM))∧
(mN=false→(ak (fW LW [(0,1,a0),(1,1,a1),(2,1,a2)]) fun cW=>
aK (if (cW).cells.all (·.one) then some (.ptr (some (gM.next,0)),gM.push (.cells (cW).cells)) else none) fun cz eO=>
ak (bh false a4) fun v21=>
aK (R lim (.fn 71) [v21,a3] eO) fun v22 gP=>
aK ((cU [(.str [])] [(0,1,v22)]).map fun cs=>(.sl (some (gP.next,0)) 1 (.ex 1),gP.push (.cells cs))) fun v24 pg=>
aK (fO lim pg [(.str [])] 16 false v24 dw) fun v26 gQ=>
aK (R lim (.fn 70) [cz,v26] gQ) fun v28 iP=>
ak (av .neq v28 (.int .i64 0)) fun v30=>
ak (aV v30) fun j6=>
(j6=true→(K (.bq [(.ptr none),v28]) iP))∧
(j6=false→(K (.bq [cz,(.int .i64 0)]) iP))))))))
def MG (R:aq) (lim n:Nat) (K:aa→ah→Prop):Nat→Tm→ah→Prop
 | _,_,_=>False
theorem YR (R:aq) (lim n:Nat) (K:aa→ah→Prop) (a0 a1 a2 a3 a4:aa) (H:ah):FI R lim n K a0 a1 a2 a3 a4 H=aS R lim n 53 (MG R lim n K) f21.body (bS [a0,a1,a2,a3,a4]) H (aM [(.tmp 10),(.tmp 11)] K):=by kernel_rfl
theorem YS (R:aq) (lim n:Nat) (K:aa→ah→Prop):bO R lim n 53 (MG R lim n K) f21.body (aM [(.tmp 10),(.tmp 11)] K):=(aL (by kernel_rfl))
theorem YT {ap:FuncId→Option bg} (hf:ap 21=some (.code f21)) {n lim:Nat} {K:aa→ah→Prop} {a0 a1 a2 a3 a4:aa} {H:ah} (h:FI (au.runT ap n) lim n K a0 a1 a2 a3 a4 H):∃v H',au.runT ap (n+1) lim (.fn 21) [a0,a1,a2,a3,a4] H=some (v,H')∧K v H':=by
 rw [YR] at h
 exact bX hf (by kernel_rfl) (by kernel_rfl) (bw f21.body _ _ _ _ (YS _ _ _ K) (fun _ _ _ h=>h) h)
def FJ (R:aq) (lim n:Nat) (K:aa→ah→Prop) (H:ah):Prop:=
K (.bq []) H
def FK (R:aq) (lim n:Nat) (K:aa→ah→Prop) (a0 a1:aa) (H:ah):Prop:=
aK (R lim (.fn 72) [a0] H) fun v1 H2=>
ak (fE .not v1) fun v3=>
ak (aV v3) fun b4=>
(b4=true→(ak (iL true [a1,(.int .i64 0)]) fun v5=>
ak (dI a0) fun v6=>
ak (aU 2 v6) fun v7=>
ak (bp lim H2 1 v7 v5) fun H8=>
FJ R lim n K H8))∧
(b4=false→(FJ R lim n K H2))
def MH (R:aq) (lim n:Nat) (K:aa→ah→Prop):Nat→Tm→ah→Prop
 | _,_,_=>False
theorem YU (R:aq) (lim n:Nat) (K:aa→ah→Prop) (a0 a1:aa) (H:ah):FK R lim n K a0 a1 H=aS R lim n 12 (MH R lim n K) f22.body (bS [a0,a1]) H (aM [] K):=by kernel_rfl
theorem YV (R:aq) (lim n:Nat) (K:aa→ah→Prop):bO R lim n 12 (MH R lim n K) f22.body (aM [] K):=(aL (by kernel_rfl))
theorem YW {ap:FuncId→Option bg} (hf:ap 22=some (.code f22)) {n lim:Nat} {K:aa→ah→Prop} {a0 a1:aa} {H:ah} (h:FK (au.runT ap n) lim n K a0 a1 H):∃v H',au.runT ap (n+1) lim (.fn 22) [a0,a1] H=some (v,H')∧K v H':=by
 rw [YU] at h
 exact bX hf (by kernel_rfl) (by kernel_rfl) (bw f22.body _ _ _ _ (YV _ _ _ K) (fun _ _ _ h=>h) h)
def FL (R:aq) (lim n:Nat) (K:aa→ah→Prop) (a0 a1:aa) (H:ah):Prop:=
ak (dZ false .ptr a0 (.ptr none)) fun v1=>
ak (gd (some (v1,false)) (some a0)) fun v2=>
ak (gd (some (v1,false)) (dI v2)) fun v3=>
ak (gd (some (v1,false)) (aU 0 v3)) fun v4=>
ak (gd (some (v1,false)) (aB H none v4)) fun v5=>
ak (gd (some (v1,false)) (dZ false .ptr v5 (.ptr none))) fun v6=>
ak (bH v1 (.bool true) v6) fun v7=>
ak (aV v7) fun b8=>
(b8=true→(K (.int .i64 2) H))∧
(b8=false→(ak (dI a0) fun v9=>
ak (aU 0 v9) fun v10=>
ak (aB H none v10) fun v11=>
ak (dI a0) fun v12=>
ak (aU 1 v12) fun cO=>
ak (aB H none cO) fun dw=>
aK (R lim (.fn 67) [v11,dw] H) fun cY uK=>
ak (av .neq cY (.int .i64 0)) fun cu=>
ak (aV cu) fun mP=>
(mP=true→(K cY uK))∧
(mP=false→(aK (R lim (.fn 69) [a1] uK) fun cz eO=>
ak (bF 0 cz) fun v21=>
ak (bF 1 cz) fun v22=>
ak (fE .not v22) fun v23=>
ak (aV v23) fun mO=>
(mO=true→(K (.int .i64 1) eO))∧
(mO=false→(ak (bh false v21) fun v25=>
ak (av .eql v25 (.int .i64 0)) fun v26=>
ak (aV v26) fun MI=>
(MI=true→(K (.int .i64 0) eO))∧
(MI=false→(aK (R lim (.fn 70) [a0,v21] eO) fun v28 iP=>
ak (av .neq v28 (.int .i64 0)) fun v30=>
ak (aV v30) fun j6=>
(j6=true→(K v28 iP))∧
(j6=false→(ak (dI a0) fun v32=>
ak (aU 3 v32) fun v33=>
ak (aB iP none v33) fun eX=>
ak (bh false v21) fun v35=>
ak (av .add eX v35) fun v36=>
ak (dI a0) fun v37=>
ak (aU 3 v37) fun eY=>
ak (bp lim iP 1 eY v36) fun YX=>
K (.int .i64 0) YX))))))))))
def MJ (R:aq) (lim n:Nat) (K:aa→ah→Prop):Nat→Tm→ah→Prop
 | _,_,_=>False
theorem YY (R:aq) (lim n:Nat) (K:aa→ah→Prop) (a0 a1:aa) (H:ah):FL R lim n K a0 a1 H=aS R lim n 57 (MJ R lim n K) f23.body (bS [a0,a1]) H (aM [(.tmp 4)] K):=by kernel_rfl
theorem YZ (R:aq) (lim n:Nat) (K:aa→ah→Prop):bO R lim n 57 (MJ R lim n K) f23.body (aM [(.tmp 4)] K):=(aL (by kernel_rfl))
theorem Y0 {ap:FuncId→Option bg} (hf:ap 23=some (.code f23)) {n lim:Nat} {K:aa→ah→Prop} {a0 a1:aa} {H:ah} (h:FL (au.runT ap n) lim n K a0 a1 H):∃v H',au.runT ap (n+1) lim (.fn 23) [a0,a1] H=some (v,H')∧K v H':=by
 rw [YY] at h
 exact bX hf (by kernel_rfl) (by kernel_rfl) (bw f23.body _ _ _ _ (YZ _ _ _ K) (fun _ _ _ h=>h) h)
def MK (R:aq) (lim n:Nat) (K:aa→ah→Prop) (H:ah):Prop:=
K (.bq []) H
def Bf (R:aq) (lim n:Nat) (K:aa→ah→Prop) (ay:aa→aa→aa→aa→aa→aa→ah→Prop) (t0 t3 t4 t6 t7 t14 t15 t16:aa) (H:ah):Prop:=
ak (dI t0) fun mM=>
ak (aU 0 mM) fun jg=>
ak (aB H none jg) fun v57=>
ak (aB H (some 4) t7) fun j8=>
aK ((lp lim H false [.str] v57 t6 j8).map fun H=>(bA,H)) fun _ jz=>
ak (av .add t16 (.int .i64 1)) fun jL=>
ay t0 t3 t4 t14 t15 jL jz
def sJ (R:aq) (lim n:Nat) (K:aa→ah→Prop) (ay:aa→aa→aa→aa→aa→aa→ah→Prop) (t0 t3 t4 t14 t15 t16:aa) (H:ah):Prop:=
ak (av .lss t16 t15) fun v40=>
ak (aV v40) fun ML=>
(ML=true→(ak (cD none 1 t14 t16) fun gw=>
ak (aB H none gw) fun fQ=>
ak (dI t0) fun v44=>
ak (aU 0 v44) fun gN=>
ak (aB H none gN) fun v46=>
ak (jV H false [.str] (.agg [(.sl none 0 (.ex 0)),(.int .i64 0),(.bool false),(.str [])]) false v46 fQ) fun gx=>
ak (bp lim (H.push (.cells fP)) 4 (.ptr (some (H.next,0))) gx) fun o8=>
ak (aU 1 (.ptr (some (H.next,0)))) fun v49=>
ak (aB o8 none v49) fun fR=>
ak (aU 0 (.ptr (some (H.next,0)))) fun v51=>
ak (aB o8 none v51) fun gy=>
ak (bh false gy) fun v53=>
ak (av .lss fR v53) fun iO=>
ak (aV iO) fun MM=>
(MM=true→(ak (aB o8 (some 4) (.ptr (some (H.next,0)))) fun sE=>
ak (aB o8 (some 2) t3) fun v63=>
aK (R lim (.fn 73) [sE,v63,t4] o8) fun v64 Y1=>
ak (bp lim Y1 4 (.ptr (some (H.next,0))) v64) fun A9=>
ak (av .add t4 (.int .i64 1)) fun qN=>
Bf R lim n K ay t0 t3 qN fQ (.ptr (some (H.next,0))) t14 t15 t16 A9))∧
(MM=false→(Bf R lim n K ay t0 t3 t4 fQ (.ptr (some (H.next,0))) t14 t15 t16 o8))))∧
(ML=false→(MK R lim n K H))
def nN (R:aq) (lim n:Nat) (K:aa→ah→Prop):Nat→aa→aa→aa→aa→aa→aa→ah→Prop
 | 0,_,_,_,_,_,_,_=>False
 | m+1,t0,t3,t4,t14,t15,t16,H=>sJ R lim n K (nN R lim n K m) t0 t3 t4 t14 t15 t16 H
def FM (R:aq) (lim n:Nat) (K:aa→ah→Prop) (a0 a1:aa) (H:ah):Prop:=
aK (if (a1).cells.all (·.one) then some (.ptr (some (H.next,0)),H.push (.cells (a1).cells)) else none) fun v1 H2=>
aK (R lim (.fn 72) [a0] H2) fun v3 H4=>
ak (aV v3) fun b5=>
(b5=true→(K (.bq []) H4))∧
(b5=false→(ak (dI a0) fun v6=>
ak (aU 1 v6) fun v7=>
ak (bp lim H4 1 v7 (.bool true)) fun H8=>
aK (R lim (.fn 64) [a0] H8) fun v9 qQ=>
ak (bh false v9) fun v11=>
nN R lim n K n a0 v1 (.int .i64 0) v9 v11 (.int .i64 0) qQ))
def MN (R:aq) (lim n:Nat) (K:aa→ah→Prop):Nat→Tm→ah→Prop
 | 0,T,H=>nN R lim n K n (T 0) (T 3) (T 4) (T 14) (T 15) (T 16) H
 | _,_,_=>False
def Y2 (R:aq) (lim n:Nat) (K:aa→ah→Prop) (ay:aa→aa→aa→aa→aa→aa→ah→Prop):Nat→Tm→ah→Prop
 | _,_,_=>False
def MO (R:aq) (lim n:Nat) (K:aa→ah→Prop) (ay:aa→aa→aa→aa→aa→aa→ah→Prop):Kt:=fun ex T H=>match ex with
 | .norm=>ay (T 0) (T 3) (T 4) (T 14) (T 15) (T 16) H
 | ex=>(bZ 0 (aM [] K)) ex T H
theorem Y3 (R:aq) (lim n:Nat) (K:aa→ah→Prop) (ay:aa→aa→aa→aa→aa→aa→ah→Prop) (T:Tm) (H:ah):sJ R lim n K ay (T 0) (T 3) (T 4) (T 14) (T 15) (T 16) H=aS R lim n 45 (Y2 R lim n K ay) xe T H (MO R lim n K ay):=by kernel_rfl
theorem MP (R:aq) (lim n:Nat) (K:aa→ah→Prop) {kw:Kt} (hk:∀ex T H,(bZ 0 (aM [] K)) ex T H→kw ex T H):∀(m:Nat) (T:Tm) (H:ah),nN R lim n K m (T 0) (T 3) (T 4) (T 14) (T 15) (T 16) H→cH (cg R lim n 45 xe) m T H kw
 | 0,_,_,h=>False.elim h
 | m+1,T,H,h=>by
  have hb:∀ex T H,MO R lim n K (nN R lim n K m) ex T H→(fun ex T H=>match ex with | .norm=>cH (cg R lim n 45 xe) m T H kw | ex=>kw ex T H:Kt) ex T H:=by
   intro ex T H h
   cases ex with
   | norm=>exact MP R lim n K hk m T H h
   | exit i=>exact hk _ _ _ h
   | ret=>exact hk _ _ _ h
  have h':sJ R lim n K (nN R lim n K m) (T 0) (T 3) (T 4) (T 14) (T 15) (T 16) H:=h
  rw [Y3] at h'
  exact bw xe T H _ _ (aL (by kernel_rfl)) hb h'
theorem Y4 (R:aq) (lim n:Nat) (K:aa→ah→Prop) (a0 a1:aa) (H:ah):FM R lim n K a0 a1 H=aS R lim n 45 (MN R lim n K) f24.body (bS [a0,a1]) H (aM [] K):=by kernel_rfl
theorem Y5 (R:aq) (lim n:Nat) (K:aa→ah→Prop):bO R lim n 45 (MN R lim n K) f24.body (aM [] K):=⟨(aL (by kernel_rfl)),⟨(aL (by kernel_rfl)),⟨(aL (by kernel_rfl)),⟨(aL (by kernel_rfl)),⟨(aL (by kernel_rfl)),(fun T H h=>MP R lim n K (eV (fun _ _ _ h=>h)) _ T H h)⟩⟩⟩⟩⟩
theorem Y6 {ap:FuncId→Option bg} (hf:ap 24=some (.code f24)) {n lim:Nat} {K:aa→ah→Prop} {a0 a1:aa} {H:ah} (h:FM (au.runT ap n) lim n K a0 a1 H):∃v H',au.runT ap (n+1) lim (.fn 24) [a0,a1] H=some (v,H')∧K v H':=by
 rw [Y4] at h
 exact bX hf (by kernel_rfl) (by kernel_rfl) (bw f24.body _ _ _ _ (Y5 _ _ _ K) (fun _ _ _ h=>h) h)
def FN (R:aq) (lim n:Nat) (K:aa→ah→Prop) (H:ah):Prop:=
K (.bq []) H
def FO (R:aq) (lim n:Nat) (K:aa→ah→Prop) (a0:aa) (H:ah):Prop:=
aK (R lim (.fn 72) [a0] H) fun v1 H2=>
ak (fE .not v1) fun v3=>
ak (aV v3) fun b4=>
(b4=true→(ak (dI a0) fun v5=>
ak (aU 1 v5) fun v6=>
ak (bp lim H2 1 v6 (.bool false)) fun H7=>
FN R lim n K H7))∧
(b4=false→(FN R lim n K H2))
def MQ (R:aq) (lim n:Nat) (K:aa→ah→Prop):Nat→Tm→ah→Prop
 | _,_,_=>False
theorem Y7 (R:aq) (lim n:Nat) (K:aa→ah→Prop) (a0:aa) (H:ah):FO R lim n K a0 H=aS R lim n 8 (MQ R lim n K) f25.body (bS [a0]) H (aM [] K):=by kernel_rfl
theorem Y8 (R:aq) (lim n:Nat) (K:aa→ah→Prop):bO R lim n 8 (MQ R lim n K) f25.body (aM [] K):=(aL (by kernel_rfl))
theorem Y9 {ap:FuncId→Option bg} (hf:ap 25=some (.code f25)) {n lim:Nat} {K:aa→ah→Prop} {a0:aa} {H:ah} (h:FO (au.runT ap n) lim n K a0 H):∃v H',au.runT ap (n+1) lim (.fn 25) [a0] H=some (v,H')∧K v H':=by
 rw [Y7] at h
 exact bX hf (by kernel_rfl) (by kernel_rfl) (bw f25.body _ _ _ _ (Y8 _ _ _ K) (fun _ _ _ h=>h) h)
def FP (R:aq) (lim n:Nat) (K:aa→ah→Prop) (t6 t7 t14:aa) (H:ah):Prop:=
ak (bh false t7) fun fR=>
ak (fo .u64 fR) fun v51=>
ak (av .geq v51 t14) fun gy=>
K (.bq [t6,t7,gy,(.int .i64 0)]) H
def xX (R:aq) (lim n:Nat) (K:aa→ah→Prop) (ay:aa→aa→aa→aa→aa→aa→ah→Prop) (t1 t6 t7 t11 t13 t14:aa) (H:ah):Prop:=
ak (dS t11 (some t13) none) fun v53=>
aK (R lim (.fn 74) [t1,v53] H) fun iO mQ=>
ak (bF 0 iO) fun jg=>
ak (bF 1 iO) fun v57=>
aK (R lim (.fn 76) [jg] mQ) fun j8 jz=>
ak (bF 0 j8) fun jL=>
ak (bF 1 j8) fun j9=>
ak (bp lim (jz.push (.cells cV)) 16 (.ptr (some (jz.next,0))) jL) fun jA=>
ak (av .eql v57 (.int .i64 0)) fun v63=>
ak (gd (some (v63,false)) (some j9)) fun v64=>
ak (gd (some (v63,false)) (fE .not v64)) fun o9=>
ak (bH v63 (.bool true) o9) fun FQ=>
ak (aV FQ) fun MR=>
(MR=true→(FP R lim n K t6 t7 t14 jA))∧
(MR=false→(ak (aB jA (some 16) (.ptr (some (jz.next,0)))) fun sF=>
aK ((cU cV [(0,16,sF)]).map fun cs=>(.sl (some (jA.next,0)) 1 (.ex 1),jA.push (.cells cs))) fun sG Za=>
aK (fO lim Za cV 72 false t7 sG) fun xY FR=>
ay t1 t6 xY v53 v57 t14 FR))
def qR (R:aq) (lim n:Nat) (K:aa→ah→Prop):Nat→aa→aa→aa→aa→aa→aa→ah→Prop
 | 0,_,_,_,_,_,_,_=>False
 | m+1,t1,t6,t7,t11,t13,t14,H=>xX R lim n K (qR R lim n K m) t1 t6 t7 t11 t13 t14 H
def FT (R:aq) (lim n:Nat) (K:aa→ah→Prop) (a0 a1 a2:aa) (H:ah):Prop:=
aK (R lim (.fn 67) [a0,a1] H) fun v1 H2=>
ak (av .neq v1 (.int .i64 0)) fun v3=>
ak (aV v3) fun b4=>
(b4=true→(K (.bq [(.int .u64 0),(.sl none 0 (.ex 0)),(.bool false),v1]) H2))∧
(b4=false→(aK (R lim (.fn 31) [a2] H2) fun v5 H6=>
aK (R lim (.fn 36) [a0,v5] H6) fun v7 H8=>
ak (bF 0 v7) fun v9=>
ak (bF 1 v7) fun v10=>
ak (av .neq v10 (.int .i64 0)) fun v11=>
ak (aV v11) fun MS=>
(MS=true→(K (.bq [(.int .u64 0),(.sl none 0 (.ex 0)),(.bool false),v10]) H8))∧
(MS=false→(aK (R lim (.fn 74) [a1,v9] H8) fun cO mR=>
ak (bF 0 cO) fun cY=>
ak (bF 1 cO) fun cy=>
aK (R lim (.fn 75) [cY] mR) fun cu mL=>
ak (bF 0 cu) fun cz=>
ak (bF 1 cu) fun v20=>
ak (bF 2 cu) fun v21=>
ak (av .eql cy (.int .i64 0)) fun v22=>
ak (gd (some (v22,false)) (some v21)) fun v23=>
ak (gd (some (v22,false)) (fE .not v23)) fun v24=>
ak (bH v22 (.bool true) v24) fun v25=>
ak (aV v25) fun mS=>
(mS=true→(K (.bq [(.int .u64 0),(.sl none 0 (.ex 0)),(.bool false),(.int .i64 0)]) mL))∧
(mS=false→(qR R lim n K n a1 v20 (.sl none 0 (.ex 0)) v9 cy cz mL))))))
def Bg (R:aq) (lim n:Nat) (K:aa→ah→Prop):Nat→Tm→ah→Prop
 | 0,T,H=>qR R lim n K n (T 1) (T 6) (T 7) (T 11) (T 13) (T 14) H
 | _,_,_=>False
def Zb (R:aq) (lim n:Nat) (K:aa→ah→Prop) (ay:aa→aa→aa→aa→aa→aa→ah→Prop):Nat→Tm→ah→Prop
 | _,_,_=>False
def MT (R:aq) (lim n:Nat) (K:aa→ah→Prop) (ay:aa→aa→aa→aa→aa→aa→ah→Prop):Kt:=fun ex T H=>match ex with
 | .norm=>ay (T 1) (T 6) (T 7) (T 11) (T 13) (T 14) H
 | ex=>(bZ 0 (cE (aS R lim n 86 (Bg R lim n K) Eh) (aM [(.tmp 6),(.tmp 7),(.tmp 8),(.tmp 9)] K))) ex T H
theorem Zc (R:aq) (lim n:Nat) (K:aa→ah→Prop) (ay:aa→aa→aa→aa→aa→aa→ah→Prop) (T:Tm) (H:ah):xX R lim n K ay (T 1) (T 6) (T 7) (T 11) (T 13) (T 14) H=aS R lim n 86 (Zb R lim n K ay) xg T H (MT R lim n K ay):=by kernel_rfl
theorem MU (R:aq) (lim n:Nat) (K:aa→ah→Prop) {kw:Kt} (hk:∀ex T H,(bZ 0 (cE (aS R lim n 86 (Bg R lim n K) Eh) (aM [(.tmp 6),(.tmp 7),(.tmp 8),(.tmp 9)] K))) ex T H→kw ex T H):∀(m:Nat) (T:Tm) (H:ah),qR R lim n K m (T 1) (T 6) (T 7) (T 11) (T 13) (T 14) H→cH (cg R lim n 86 xg) m T H kw
 | 0,_,_,h=>False.elim h
 | m+1,T,H,h=>by
  have hb:∀ex T H,MT R lim n K (qR R lim n K m) ex T H→(fun ex T H=>match ex with | .norm=>cH (cg R lim n 86 xg) m T H kw | ex=>kw ex T H:Kt) ex T H:=by
   intro ex T H h
   cases ex with
   | norm=>exact MU R lim n K hk m T H h
   | exit i=>exact hk _ _ _ h
   | ret=>exact hk _ _ _ h
  have h':xX R lim n K (qR R lim n K m) (T 1) (T 6) (T 7) (T 11) (T 13) (T 14) H:=h
  rw [Zc] at h'
  exact bw xg T H _ _ (aL (by kernel_rfl)) hb h'
theorem Zd (R:aq) (lim n:Nat) (K:aa→ah→Prop) (a0 a1 a2:aa) (H:ah):FT R lim n K a0 a1 a2 H=aS R lim n 86 (Bg R lim n K) f26.body (bS [a0,a1,a2]) H (aM [(.tmp 6),(.tmp 7),(.tmp 8),(.tmp 9)] K):=by kernel_rfl
theorem Ze (R:aq) (lim n:Nat) (K:aa→ah→Prop):bO R lim n 86 (Bg R lim n K) f26.body (aM [(.tmp 6),(.tmp 7),(.tmp 8),(.tmp 9)] K):=⟨(aL (by kernel_rfl)),⟨(aL (by kernel_rfl)),⟨(aL (by kernel_rfl)),⟨(aL (by kernel_rfl)),⟨(aL (by kernel_rfl)),⟨(aL (by kernel_rfl)),⟨(aL (by kernel_rfl)),⟨(fun T H h=>MU R lim n K (eV (fX (aL (by kernel_rfl)) (fun _ _ _ h=>h))) _ T H h),(aL (by kernel_rfl))⟩⟩⟩⟩⟩⟩⟩⟩
theorem Zf {ap:FuncId→Option bg} (hf:ap 26=some (.code f26)) {n lim:Nat} {K:aa→ah→Prop} {a0 a1 a2:aa} {H:ah} (h:FT (au.runT ap n) lim n K a0 a1 a2 H):∃v H',au.runT ap (n+1) lim (.fn 26) [a0,a1,a2] H=some (v,H')∧K v H':=by
 rw [Zd] at h
 exact bX hf (by kernel_rfl) (by kernel_rfl) (bw f26.body _ _ _ _ (Ze _ _ _ K) (fun _ _ _ h=>h) h)
def FU (R:aq) (lim n:Nat) (K:aa→ah→Prop) (a0 a1:aa) (H:ah):Prop:=
ak (bh false a0) fun v1=>
ak (bh false a1) fun v2=>
ak (av .leq v1 v2) fun v3=>
ak (gd (some (v3,true)) (some a0)) fun v4=>
ak (gd (some (v3,true)) (some a1)) fun v5=>
ak (gd (some (v3,true)) (some a0)) fun v6=>
ak (gd (some (v3,true)) (bh false v6)) fun v7=>
ak (gd (some (v3,true)) (fN 16 v5 none (some v7) none)) fun v8=>
aK (eA (some (v3,true)) H (R lim (.fn 77) [v4,v8] H)) fun v9 qQ=>
ak (bH v3 v9 (.bool false)) fun v11=>
K v11 qQ
def MV (R:aq) (lim n:Nat) (K:aa→ah→Prop):Nat→Tm→ah→Prop
 | _,_,_=>False
theorem Zg (R:aq) (lim n:Nat) (K:aa→ah→Prop) (a0 a1:aa) (H:ah):FU R lim n K a0 a1 H=aS R lim n 18 (MV R lim n K) f27.body (bS [a0,a1]) H (aM [(.tmp 4)] K):=by kernel_rfl
theorem Zh (R:aq) (lim n:Nat) (K:aa→ah→Prop):bO R lim n 18 (MV R lim n K) f27.body (aM [(.tmp 4)] K):=(aL (by kernel_rfl))
theorem Zi {ap:FuncId→Option bg} (hf:ap 27=some (.code f27)) {n lim:Nat} {K:aa→ah→Prop} {a0 a1:aa} {H:ah} (h:FU (au.runT ap n) lim n K a0 a1 H):∃v H',au.runT ap (n+1) lim (.fn 27) [a0,a1] H=some (v,H')∧K v H':=by
 rw [Zg] at h
 exact bX hf (by kernel_rfl) (by kernel_rfl) (bw f27.body _ _ _ _ (Zh _ _ _ K) (fun _ _ _ h=>h) h)
def MW (R:aq) (lim n:Nat) (K:aa→ah→Prop) (a0 a1 a2:aa) (H:ah):Prop:=
aK (if (a2).cells.all (·.one) then some (.ptr (some (H.next,0)),H.push (.cells (a2).cells)) else none) fun v1 H2=>
aK (R lim (.fn 18) [] H2) fun v3 H4=>
aK (R lim (.fn 19) [] H4) fun v5 H6=>
ak (bp lim (H6.push (.cells mI)) 256 (.ptr (some (H6.next,0))) v5) fun H7=>
aK (R lim (.fn 21) [v3,(.ptr (some (H6.next,0))),(.int .u64 7),(.int .u64 0),(.sl none 0 (.ex 0))] H7) fun v8 H9=>
ak (bF 0 v8) fun v10=>
ak (bF 1 v8) fun v11=>
ak (av .neq v11 (.int .i64 0)) fun v12=>
ak (gd (some (v12,false)) (some v10)) fun cO=>
ak (gd (some (v12,false)) (dZ false .ptr cO (.ptr none))) fun dw=>
ak (bH v12 (.bool true) dw) fun cY=>
ak (aV cY) fun qS=>
(qS=true→(K (.bq [(.sl none 0 (.ex 0)),(.bool false)]) H9))∧
(qS=false→(ak (av .rem a1 (.int .u8 50)) fun cu=>
ak (fo .i64 cu) fun cW=>
aK (R lim (.fn 22) [v3,cW] H9) fun cz eO=>
aK (R lim (.fn 23) [v10,a0] eO) fun v21 fu=>
ak (aB fu (some 2) v1) fun v23=>
aK (R lim (.fn 24) [v3,v23] fu) fun v24 pg=>
aK (R lim (.fn 25) [v3] pg) fun v26 gQ=>
aK (R lim (.fn 26) [v3,(.ptr (some (H6.next,0))),(.int .u64 7)] gQ) fun v28 iP=>
ak (bF 0 v28) fun v30=>
ak (bF 1 v28) fun v31=>
ak (bF 2 v28) fun v32=>
ak (bF 3 v28) fun v33=>
ak (gd (some (v32,true)) (some v21)) fun eX=>
ak (gd (some (v32,true)) (av .eql eX (.int .i64 0))) fun v35=>
ak (gd (some (v32,true)) (some a1)) fun v36=>
ak (gd (some (v32,true)) (av .rem v36 (.int .u8 50))) fun v37=>
ak (gd (some (v32,true)) (av .eql v37 (.int .u8 0))) fun eY=>
ak (gd (some (v32,true)) (some eY)) fun eo=>
ak (gd (some (eo,false)) (some a1)) fun v40=>
ak (gd (some (eo,false)) (av .rem v40 (.int .u8 50))) fun v41=>
ak (gd (some (eo,false)) (fo .i64 v41)) fun gw=>
ak (gd (some (eo,false)) (some a0)) fun fQ=>
ak (gd (some (eo,false)) (bh false fQ)) fun v44=>
ak (gd (some (eo,false)) (av .add v44 (.int .i64 1))) fun gN=>
ak (gd (some (eo,false)) (av .gtr gw gN)) fun v46=>
ak (gd (some (v32,true)) (bH eo (.bool true) v46)) fun gx=>
ak (gd (some (v32,true)) (some gx)) fun fZ=>
ak (gd (some (fZ,false)) (some a0)) fun v49=>
ak (gd (some (fZ,false)) (bh false v49)) fun fR=>
ak (gd (some (fZ,false)) (av .eql fR (.int .i64 0))) fun v51=>
ak (gd (some (v32,true)) (bH fZ (.bool true) v51)) fun gy=>
ak (gd (some (v32,true)) (dZ false .bool v35 gy)) fun v53=>
ak (bH v32 v53 (.bool false)) fun iO=>
K (.bq [v31,iO]) iP))
def MX (R:aq) (lim n:Nat) (K:aa→ah→Prop):Nat→Tm→ah→Prop
 | _,_,_=>False
theorem Zj (R:aq) (lim n:Nat) (K:aa→ah→Prop) (a0 a1 a2:aa) (H:ah):MW R lim n K a0 a1 a2 H=aS R lim n 74 (MX R lim n K) f28.body (bS [a0,a1,a2]) H (aM [(.tmp 6),(.tmp 7)] K):=by kernel_rfl
theorem Zk (R:aq) (lim n:Nat) (K:aa→ah→Prop):bO R lim n 74 (MX R lim n K) f28.body (aM [(.tmp 6),(.tmp 7)] K):=(aL (by kernel_rfl))
theorem agF {ap:FuncId→Option bg} (hf:ap 28=some (.code f28)) {n lim:Nat} {K:aa→ah→Prop} {a0 a1 a2:aa} {H:ah} (h:MW (au.runT ap n) lim n K a0 a1 a2 H):∃v H',au.runT ap (n+1) lim (.fn 28) [a0,a1,a2] H=some (v,H')∧K v H':=by
 rw [Zj] at h
 exact bX hf (by kernel_rfl) (by kernel_rfl) (bw f28.body _ _ _ _ (Zk _ _ _ K) (fun _ _ _ h=>h) h)
def FV (R:aq) (lim n:Nat) (K:aa→ah→Prop) (a0:aa) (H:ah):Prop:=
aK (R lim (.fn 80) [a0,(.int .i64 10)] H) fun v1 H2=>
ak (bh true v1) fun v3=>
ak (av .sub (.int .i64 8) v3) fun v4=>
ak (iL true [v4,(.int .i64 0)]) fun v5=>
aK (R lim (.fn 81) [(.str [48]),v5] H2) fun v6 H7=>
ak (av .add (.str [115,101,103,46]) v6) fun v8=>
ak (av .add v8 v1) fun v9=>
K v9 H7
def MY (R:aq) (lim n:Nat) (K:aa→ah→Prop):Nat→Tm→ah→Prop
 | _,_,_=>False
theorem Zl (R:aq) (lim n:Nat) (K:aa→ah→Prop) (a0:aa) (H:ah):FV R lim n K a0 H=aS R lim n 14 (MY R lim n K) f31.body (bS [a0]) H (aM [(.tmp 2)] K):=by kernel_rfl
theorem Zm (R:aq) (lim n:Nat) (K:aa→ah→Prop):bO R lim n 14 (MY R lim n K) f31.body (aM [(.tmp 2)] K):=(aL (by kernel_rfl))
theorem Zn {ap:FuncId→Option bg} (hf:ap 31=some (.code f31)) {n lim:Nat} {K:aa→ah→Prop} {a0:aa} {H:ah} (h:FV (au.runT ap n) lim n K a0 H):∃v H',au.runT ap (n+1) lim (.fn 31) [a0] H=some (v,H')∧K v H':=by
 rw [Zl] at h
 exact bX hf (by kernel_rfl) (by kernel_rfl) (bw f31.body _ _ _ _ (Zm _ _ _ K) (fun _ _ _ h=>h) h)
def Zo (R:aq) (lim n:Nat) (K:aa→ah→Prop) (t3:aa) (H:ah):Prop:=
aK (R lim (.fn 82) [t3] H) fun v20 gu=>
K t3 gu
def MZ (R:aq) (lim n:Nat) (K:aa→ah→Prop) (ay:aa→aa→aa→aa→ah→Prop) (t3 t9 t10 t11:aa) (H:ah):Prop:=
ak (av .add t11 (.int .i64 1)) fun v30=>
ay t3 t9 t10 v30 H
def FW (R:aq) (lim n:Nat) (K:aa→ah→Prop) (ay:aa→aa→aa→aa→ah→Prop) (t3 t9 t10 t11:aa) (H:ah):Prop:=
ak (av .lss t11 t10) fun v22=>
ak (aV v22) fun mT=>
(mT=true→(ak (cD none 1 t9 t11) fun v24=>
ak (aB H none v24) fun v25=>
aK (R lim (.fn 29) [v25] H) fun v26 gQ=>
ak (bF 0 v26) fun v28=>
ak (bF 1 v26) fun v29=>
ak (aV v29) fun j6=>
(j6=true→(aK ((cU [(.int .u64 0)] [(0,1,v28)]).map fun cs=>(.sl (some (gQ.next,0)) 1 (.ex 1),gQ.push (.cells cs))) fun v32 j7=>
aK (fO lim j7 [(.int .u64 0)] 8 false t3 v32) fun eX Zp=>
MZ R lim n K ay eX t9 t10 t11 Zp))∧
(j6=false→(MZ R lim n K ay t3 t9 t10 t11 gQ))))∧
(mT=false→(Zo R lim n K t3 H))
def uM (R:aq) (lim n:Nat) (K:aa→ah→Prop):Nat→aa→aa→aa→aa→ah→Prop
 | 0,_,_,_,_,_=>False
 | m+1,t3,t9,t10,t11,H=>FW R lim n K (uM R lim n K m) t3 t9 t10 t11 H
def M0 (R:aq) (lim n:Nat) (K:aa→ah→Prop) (a0:aa) (H:ah):Prop:=
aK (R lim (.fn 64) [a0] H) fun v1 H2=>
ak (bh false v1) fun v3=>
uM R lim n K n (.sl none 0 (.ex 0)) v1 v3 (.int .i64 0) H2
def Bh (R:aq) (lim n:Nat) (K:aa→ah→Prop):Nat→Tm→ah→Prop
 | 0,T,H=>uM R lim n K n (T 3) (T 9) (T 10) (T 11) H
 | _,_,_=>False
def Zq (R:aq) (lim n:Nat) (K:aa→ah→Prop) (ay:aa→aa→aa→aa→ah→Prop):Nat→Tm→ah→Prop
 | _,_,_=>False
def M1 (R:aq) (lim n:Nat) (K:aa→ah→Prop) (ay:aa→aa→aa→aa→ah→Prop):Kt:=fun ex T H=>match ex with
 | .norm=>ay (T 3) (T 9) (T 10) (T 11) H
 | ex=>(bZ 0 (cE (aS R lim n 29 (Bh R lim n K) Ei) (aM [(.tmp 2)] K))) ex T H
theorem Zr (R:aq) (lim n:Nat) (K:aa→ah→Prop) (ay:aa→aa→aa→aa→ah→Prop) (T:Tm) (H:ah):FW R lim n K ay (T 3) (T 9) (T 10) (T 11) H=aS R lim n 29 (Zq R lim n K ay) xh T H (M1 R lim n K ay):=by kernel_rfl
theorem M3 (R:aq) (lim n:Nat) (K:aa→ah→Prop) {kw:Kt} (hk:∀ex T H,(bZ 0 (cE (aS R lim n 29 (Bh R lim n K) Ei) (aM [(.tmp 2)] K))) ex T H→kw ex T H):∀(m:Nat) (T:Tm) (H:ah),uM R lim n K m (T 3) (T 9) (T 10) (T 11) H→cH (cg R lim n 29 xh) m T H kw
 | 0,_,_,h=>False.elim h
 | m+1,T,H,h=>by
  have hb:∀ex T H,M1 R lim n K (uM R lim n K m) ex T H→(fun ex T H=>match ex with | .norm=>cH (cg R lim n 29 xh) m T H kw | ex=>kw ex T H:Kt) ex T H:=by
   intro ex T H h
   cases ex with
   | norm=>exact M3 R lim n K hk m T H h
   | exit i=>exact hk _ _ _ h
   | ret=>exact hk _ _ _ h
  have h':FW R lim n K (uM R lim n K m) (T 3) (T 9) (T 10) (T 11) H:=h
  rw [Zr] at h'
  exact bw xh T H _ _ (aL (by kernel_rfl)) hb h'
theorem Zs (R:aq) (lim n:Nat) (K:aa→ah→Prop) (a0:aa) (H:ah):M0 R lim n K a0 H=aS R lim n 29 (Bh R lim n K) f34.body (bS [a0]) H (aM [(.tmp 2)] K):=by kernel_rfl
theorem Zt (R:aq) (lim n:Nat) (K:aa→ah→Prop):bO R lim n 29 (Bh R lim n K) f34.body (aM [(.tmp 2)] K):=⟨(aL (by kernel_rfl)),⟨(aL (by kernel_rfl)),⟨⟨(aL (by kernel_rfl)),(fun T H h=>M3 R lim n K (eV (fX (aL (by kernel_rfl)) (fun _ _ _ h=>h))) _ T H h)⟩,(aL (by kernel_rfl))⟩⟩⟩
theorem agG {ap:FuncId→Option bg} (hf:ap 34=some (.code f34)) {n lim:Nat} {K:aa→ah→Prop} {a0:aa} {H:ah} (h:M0 (au.runT ap n) lim n K a0 H):∃v H',au.runT ap (n+1) lim (.fn 34) [a0] H=some (v,H')∧K v H':=by
 rw [Zs] at h
 exact bX hf (by kernel_rfl) (by kernel_rfl) (bw f34.body _ _ _ _ (Zt _ _ _ K) (fun _ _ _ h=>h) h)
def FX (R:aq) (lim n:Nat) (K:aa→ah→Prop) (a0 a1:aa) (H:ah):Prop:=
aK (R lim (.fn 83) [a0] H) fun v1 H2=>
ak (av .neq v1 (.int .i64 0)) fun v3=>
ak (aV v3) fun b4=>
(b4=true→(K (.bq [(.str []),v1]) H2))∧
(b4=false→(ak (dI a0) fun v5=>
ak (aU 0 v5) fun v6=>
ak (aB H2 none v6) fun v7=>
ak (jV H2 false [.str] (.agg [(.sl none 0 (.ex 0)),(.int .i64 0),(.bool false),(.str [])]) true v7 a1) fun v8=>
ak (bF 0 v8) fun v9=>
ak (bF 1 v8) fun v10=>
ak (bp lim (H2.push (.cells fP)) 4 (.ptr (some (H2.next,0))) v9) fun dV=>
ak (fE .not v10) fun v12=>
ak (aV v12) fun j4=>
(j4=true→(K (.bq [(.str []),(.int .i64 4)]) dV))∧
(j4=false→(ak (aU 0 (.ptr (some (H2.next,0)))) fun dw=>
ak (aB dV none dw) fun cY=>
aK (R dV.next (.fn 84) [cY,(.str [])] dV) fun cy j5=>
ak (aU 3 (.ptr (some (H2.next,0)))) fun cW=>
ak (aB j5 none cW) fun cz=>
ak (av .add cy cz) fun v20=>
K (.bq [v20,(.int .i64 0)]) j5))))
def M4 (R:aq) (lim n:Nat) (K:aa→ah→Prop):Nat→Tm→ah→Prop
 | _,_,_=>False
theorem Zu (R:aq) (lim n:Nat) (K:aa→ah→Prop) (a0 a1:aa) (H:ah):FX R lim n K a0 a1 H=aS R lim n 31 (M4 R lim n K) f36.body (bS [a0,a1]) H (aM [(.tmp 4),(.tmp 5)] K):=by kernel_rfl
theorem Zv (R:aq) (lim n:Nat) (K:aa→ah→Prop):bO R lim n 31 (M4 R lim n K) f36.body (aM [(.tmp 4),(.tmp 5)] K):=(aL (by kernel_rfl))
theorem Zw {ap:FuncId→Option bg} (hf:ap 36=some (.code f36)) {n lim:Nat} {K:aa→ah→Prop} {a0 a1:aa} {H:ah} (h:FX (au.runT ap n) lim n K a0 a1 H):∃v H',au.runT ap (n+1) lim (.fn 36) [a0,a1] H=some (v,H')∧K v H':=by
 rw [Zu] at h
 exact bX hf (by kernel_rfl) (by kernel_rfl) (bw f36.body _ _ _ _ (Zv _ _ _ K) (fun _ _ _ h=>h) h)
def M5 (R:aq) (lim n:Nat) (K:aa→ah→Prop) (a0:aa) (H:ah):Prop:=
aK (R lim (.fn 31) [(.int .u64 7)] H) fun v1 H2=>
aK (R lim (.fn 85) [a0,v1] H2) fun v3 H4=>
ak (bF 0 v3) fun v5=>
ak (bF 1 v3) fun v6=>
ak (av .gtr v5 (.int .i64 0)) fun v7=>
K v7 H4
def M6 (R:aq) (lim n:Nat) (K:aa→ah→Prop):Nat→Tm→ah→Prop
 | _,_,_=>False
theorem Zx (R:aq) (lim n:Nat) (K:aa→ah→Prop) (a0:aa) (H:ah):M5 R lim n K a0 H=aS R lim n 13 (M6 R lim n K) f38.body (bS [a0]) H (aM [(.tmp 2)] K):=by kernel_rfl
theorem Zy (R:aq) (lim n:Nat) (K:aa→ah→Prop):bO R lim n 13 (M6 R lim n K) f38.body (aM [(.tmp 2)] K):=(aL (by kernel_rfl))
theorem agH {ap:FuncId→Option bg} (hf:ap 38=some (.code f38)) {n lim:Nat} {K:aa→ah→Prop} {a0:aa} {H:ah} (h:M5 (au.runT ap n) lim n K a0 H):∃v H',au.runT ap (n+1) lim (.fn 38) [a0] H=some (v,H')∧K v H':=by
 rw [Zx] at h
 exact bX hf (by kernel_rfl) (by kernel_rfl) (bw f38.body _ _ _ _ (Zy _ _ _ K) (fun _ _ _ h=>h) h)
def FY (R:aq) (lim n:Nat) (K:aa→ah→Prop) (a0 a1 a2:aa) (H:ah):Prop:=
aK (R lim (.fn 83) [a0] H) fun v1 H2=>
ak (av .neq v1 (.int .i64 0)) fun v3=>
ak (aV v3) fun b4=>
(b4=true→(K v1 H2))∧
(b4=false→(ak (dI a0) fun v5=>
ak (aU 0 v5) fun v6=>
ak (aB H2 none v6) fun v7=>
ak (jV H2 false [.str] (.agg [(.sl none 0 (.ex 0)),(.int .i64 0),(.bool false),(.str [])]) false v7 a1) fun v8=>
ak (bp lim (H2.push (.cells fP)) 4 (.ptr (some (H2.next,0))) v8) fun H9=>
aK (R lim (.fn 102) [a1] H9) fun v10 dV=>
ak (fE .not v10) fun v12=>
ak (gd (some (v12,false)) (some a2)) fun cO=>
ak (gd (some (v12,false)) (av .eql cO (.str []))) fun dw=>
ak (bH v12 (.bool true) dw) fun cY=>
ak (aV cY) fun qS=>
(qS=true→(K (.int .i64 1) dV))∧
(qS=false→(ak (aU 2 (.ptr (some (H2.next,0)))) fun cu=>
ak (aB dV none cu) fun cW=>
ak (aV cW) fun qT=>
(qT=true→(K (.int .i64 9) dV))∧
(qT=false→(aK (R lim (.fn 103) [a0] dV) fun v20 gu=>
ak (av .neq v20 (.int .i64 0)) fun v22=>
ak (aV v22) fun mT=>
(mT=true→(K v20 gu))∧
(mT=false→(ak (aU 0 (.ptr (some (H2.next,0)))) fun v24=>
ak (aB gu none v24) fun v25=>
aK (R lim (.fn 104) [v25] gu) fun v26 gQ=>
aK ((cU [(.str [])] [(0,1,a2)]).map fun cs=>(.sl (some (gQ.next,0)) 1 (.ex 1),gQ.push (.cells cs))) fun v28 iP=>
aK (fO lim iP [(.str [])] 16 false v26 v28) fun v30 Zz=>
ak (aU 0 (.ptr (some (H2.next,0)))) fun v32=>
ak (bp lim Zz 1 v32 v30) fun j7=>
ak (dI a0) fun eX=>
ak (aU 0 eX) fun v35=>
ak (aB j7 none v35) fun v36=>
ak (aB j7 (some 4) (.ptr (some (H2.next,0)))) fun v37=>
aK ((lp lim j7 false [.str] v36 a1 v37).map fun H=>(bA,H)) fun _ xZ=>
K (.int .i64 0) xZ))))))))
def M7 (R:aq) (lim n:Nat) (K:aa→ah→Prop):Nat→Tm→ah→Prop
 | _,_,_=>False
theorem ZA (R:aq) (lim n:Nat) (K:aa→ah→Prop) (a0 a1 a2:aa) (H:ah):FY R lim n K a0 a1 a2 H=aS R lim n 50 (M7 R lim n K) f57.body (bS [a0,a1,a2]) H (aM [(.tmp 6)] K):=by kernel_rfl
theorem ZB (R:aq) (lim n:Nat) (K:aa→ah→Prop):bO R lim n 50 (M7 R lim n K) f57.body (aM [(.tmp 6)] K):=(aL (by kernel_rfl))
theorem ZC {ap:FuncId→Option bg} (hf:ap 57=some (.code f57)) {n lim:Nat} {K:aa→ah→Prop} {a0 a1 a2:aa} {H:ah} (h:FY (au.runT ap n) lim n K a0 a1 a2 H):∃v H',au.runT ap (n+1) lim (.fn 57) [a0,a1,a2] H=some (v,H')∧K v H':=by
 rw [ZA] at h
 exact bX hf (by kernel_rfl) (by kernel_rfl) (bw f57.body _ _ _ _ (ZB _ _ _ K) (fun _ _ _ h=>h) h)
def FZ (R:aq) (lim n:Nat) (K:aa→ah→Prop) (a0:aa) (H:ah):Prop:=
aK (if (a0).cells.all (·.one) then some (.ptr (some (H.next,0)),H.push (.cells (a0).cells)) else none) fun v1 H2=>
ak (aU 0 v1) fun v3=>
ak (aB H2 none v3) fun v4=>
ak (av .eql v4 (.int .u8 2)) fun v5=>
ak (aV v5) fun b6=>
(b6=true→(ak (aU 3 v1) fun v7=>
ak (aB H2 (some 13) v7) fun v8=>
ak (fW eW []) fun v9=>
ak (dZ false (.cells [(.int .u64),(.int .u64),(.int .u8),(.int .u8),(.int .u8),(.int .u8),(.int .u8),(.int .u8),(.int .u8),(.int .u8),(.int .u8),(.int .u8),.str]) v8 v9) fun v10=>
K v10 H2))∧
(b6=false→(ak (aU 0 v1) fun v11=>
ak (aB H2 none v11) fun v12=>
ak (av .eql v12 (.int .u8 3)) fun cO=>
ak (gd (some (cO,true)) (aU 1 v1)) fun dw=>
ak (gd (some (cO,true)) (aB H2 none dw)) fun cY=>
ak (gd (some (cO,true)) (av .eql cY (.int .u64 0))) fun cy=>
ak (bH cO cy (.bool false)) fun cu=>
ak (gd (some (cu,true)) (aU 2 v1)) fun cW=>
ak (gd (some (cu,true)) (aB H2 none cW)) fun cz=>
ak (gd (some (cu,true)) (av .eql cz (.int .u8 0))) fun v20=>
ak (bH cu v20 (.bool false)) fun v21=>
ak (gd (some (v21,true)) (aU 3 v1)) fun v22=>
ak (gd (some (v21,true)) (aB H2 (some 13) v22)) fun v23=>
aK (eA (some (v21,true)) H2 (R lim (.fn 114) [v23] H2)) fun v24 pg=>
ak (bH v21 v24 (.bool false)) fun v26=>
K v26 pg))
def M8 (R:aq) (lim n:Nat) (K:aa→ah→Prop):Nat→Tm→ah→Prop
 | _,_,_=>False
theorem ZD (R:aq) (lim n:Nat) (K:aa→ah→Prop) (a0:aa) (H:ah):FZ R lim n K a0 H=aS R lim n 28 (M8 R lim n K) f66.body (bS [a0]) H (aM [(.tmp 2)] K):=by kernel_rfl
theorem ZE (R:aq) (lim n:Nat) (K:aa→ah→Prop):bO R lim n 28 (M8 R lim n K) f66.body (aM [(.tmp 2)] K):=(aL (by kernel_rfl))
theorem ZF {ap:FuncId→Option bg} (hf:ap 66=some (.code f66)) {n lim:Nat} {K:aa→ah→Prop} {a0:aa} {H:ah} (h:FZ (au.runT ap n) lim n K a0 H):∃v H',au.runT ap (n+1) lim (.fn 66) [a0] H=some (v,H')∧K v H':=by
 rw [ZD] at h
 exact bX hf (by kernel_rfl) (by kernel_rfl) (bw f66.body _ _ _ _ (ZE _ _ _ K) (fun _ _ _ h=>h) h)
def F0 (R:aq) (lim n:Nat) (K:aa→ah→Prop) (a0 a1:aa) (H:ah):Prop:=
ak (dZ false .ptr a0 (.ptr none)) fun v1=>
ak (gd (some (v1,false)) (some a1)) fun v2=>
ak (gd (some (v1,false)) (dZ false .ptr v2 (.ptr none))) fun v3=>
ak (bH v1 (.bool true) v3) fun v4=>
ak (aV v4) fun b5=>
(b5=true→(K (.int .i64 2) H))∧
(b5=false→(aK (R lim (.fn 96) [a0] H) fun v6 H7=>
ak (aV v6) fun b8=>
(b8=true→(K (.int .i64 7) H7))∧
(b8=false→(K (.int .i64 0) H7))))
def M9 (R:aq) (lim n:Nat) (K:aa→ah→Prop):Nat→Tm→ah→Prop
 | _,_,_=>False
theorem ZG (R:aq) (lim n:Nat) (K:aa→ah→Prop) (a0 a1:aa) (H:ah):F0 R lim n K a0 a1 H=aS R lim n 15 (M9 R lim n K) f67.body (bS [a0,a1]) H (aM [(.tmp 4)] K):=by kernel_rfl
theorem ZH (R:aq) (lim n:Nat) (K:aa→ah→Prop):bO R lim n 15 (M9 R lim n K) f67.body (aM [(.tmp 4)] K):=(aL (by kernel_rfl))
theorem ZI {ap:FuncId→Option bg} (hf:ap 67=some (.code f67)) {n lim:Nat} {K:aa→ah→Prop} {a0 a1:aa} {H:ah} (h:F0 (au.runT ap n) lim n K a0 a1 H):∃v H',au.runT ap (n+1) lim (.fn 67) [a0,a1] H=some (v,H')∧K v H':=by
 rw [ZG] at h
 exact bX hf (by kernel_rfl) (by kernel_rfl) (bw f67.body _ _ _ _ (ZH _ _ _ K) (fun _ _ _ h=>h) h)
def F1 (R:aq) (lim n:Nat) (K:aa→ah→Prop) (a0 a1:aa) (H:ah):Prop:=
aK (R lim (.fn 115) [a0,a1] H) fun v1 H2=>
ak (av .geq v1 (.int .i64 0)) fun v3=>
K v3 H2
def Na (R:aq) (lim n:Nat) (K:aa→ah→Prop):Nat→Tm→ah→Prop
 | _,_,_=>False
theorem ZJ (R:aq) (lim n:Nat) (K:aa→ah→Prop) (a0 a1:aa) (H:ah):F1 R lim n K a0 a1 H=aS R lim n 9 (Na R lim n K) f68.body (bS [a0,a1]) H (aM [(.tmp 4)] K):=by kernel_rfl
theorem ZK (R:aq) (lim n:Nat) (K:aa→ah→Prop):bO R lim n 9 (Na R lim n K) f68.body (aM [(.tmp 4)] K):=(aL (by kernel_rfl))
theorem ZL {ap:FuncId→Option bg} (hf:ap 68=some (.code f68)) {n lim:Nat} {K:aa→ah→Prop} {a0 a1:aa} {H:ah} (h:F1 (au.runT ap n) lim n K a0 a1 H):∃v H',au.runT ap (n+1) lim (.fn 68) [a0,a1] H=some (v,H')∧K v H':=by
 rw [ZJ] at h
 exact bX hf (by kernel_rfl) (by kernel_rfl) (bw f68.body _ _ _ _ (ZK _ _ _ K) (fun _ _ _ h=>h) h)
def Nb (R:aq) (lim n:Nat) (K:aa→ah→Prop) (t4:aa) (H:ah):Prop:=
K (.bq [t4,(.bool true)]) H
def x9 (R:aq) (lim n:Nat) (K:aa→ah→Prop) (ay:aa→aa→aa→aa→ah→Prop) (t4 t8 t9 t10:aa) (H:ah):Prop:=
ak (av .lss t10 t9) fun cu=>
ak (aV cu) fun mP=>
(mP=true→(ak (cD none 16 t8 t10) fun cz=>
ak (aB H (some 16) cz) fun v20=>
ak (bp lim (H.push (.cells cV)) 16 (.ptr (some (H.next,0))) v20) fun gu=>
ak (aB gu (some 16) (.ptr (some (H.next,0)))) fun v22=>
aK (R lim (.fn 116) [v22] gu) fun v23 fJ=>
ak (av .eql v23 (.str [])) fun v25=>
ak (aV v25) fun mS=>
(mS=true→(K (.bq [(.sl none 0 (.ex 0)),(.bool false)]) fJ))∧
(mS=false→(aK ((cU [(.str [])] [(0,1,v23)]).map fun cs=>(.sl (some (fJ.next,0)) 1 (.ex 1),fJ.push (.cells cs))) fun v27 gO=>
aK (fO lim gO [(.str [])] 16 false t4 v27) fun v29 FG=>
ak (av .add t10 (.int .i64 1)) fun v31=>
ay v29 t8 t9 v31 FG))))∧
(mP=false→(Nb R lim n K t4 H))
def qU (R:aq) (lim n:Nat) (K:aa→ah→Prop):Nat→aa→aa→aa→aa→ah→Prop
 | 0,_,_,_,_,_=>False
 | m+1,t4,t8,t9,t10,H=>x9 R lim n K (qU R lim n K m) t4 t8 t9 t10 H
def F2 (R:aq) (lim n:Nat) (K:aa→ah→Prop) (a0:aa) (H:ah):Prop:=
ak (bh false a0) fun v1=>
qU R lim n K n (.sl none 0 (.ex 0)) a0 v1 (.int .i64 0) H
def Bi (R:aq) (lim n:Nat) (K:aa→ah→Prop):Nat→Tm→ah→Prop
 | 0,T,H=>qU R lim n K n (T 4) (T 8) (T 9) (T 10) H
 | _,_,_=>False
def ZM (R:aq) (lim n:Nat) (K:aa→ah→Prop) (ay:aa→aa→aa→aa→ah→Prop):Nat→Tm→ah→Prop
 | _,_,_=>False
def Nc (R:aq) (lim n:Nat) (K:aa→ah→Prop) (ay:aa→aa→aa→aa→ah→Prop):Kt:=fun ex T H=>match ex with
 | .norm=>ay (T 4) (T 8) (T 9) (T 10) H
 | ex=>(bZ 0 (cE (aS R lim n 24 (Bi R lim n K) Ej) (aM [(.tmp 2),(.tmp 3)] K))) ex T H
theorem ZN (R:aq) (lim n:Nat) (K:aa→ah→Prop) (ay:aa→aa→aa→aa→ah→Prop) (T:Tm) (H:ah):x9 R lim n K ay (T 4) (T 8) (T 9) (T 10) H=aS R lim n 24 (ZM R lim n K ay) xj T H (Nc R lim n K ay):=by kernel_rfl
theorem Nd (R:aq) (lim n:Nat) (K:aa→ah→Prop) {kw:Kt} (hk:∀ex T H,(bZ 0 (cE (aS R lim n 24 (Bi R lim n K) Ej) (aM [(.tmp 2),(.tmp 3)] K))) ex T H→kw ex T H):∀(m:Nat) (T:Tm) (H:ah),qU R lim n K m (T 4) (T 8) (T 9) (T 10) H→cH (cg R lim n 24 xj) m T H kw
 | 0,_,_,h=>False.elim h
 | m+1,T,H,h=>by
  have hb:∀ex T H,Nc R lim n K (qU R lim n K m) ex T H→(fun ex T H=>match ex with | .norm=>cH (cg R lim n 24 xj) m T H kw | ex=>kw ex T H:Kt) ex T H:=by
   intro ex T H h
   cases ex with
   | norm=>exact Nd R lim n K hk m T H h
   | exit i=>exact hk _ _ _ h
   | ret=>exact hk _ _ _ h
  have h':x9 R lim n K (qU R lim n K m) (T 4) (T 8) (T 9) (T 10) H:=h
  rw [ZN] at h'
  exact bw xj T H _ _ (aL (by kernel_rfl)) hb h'
theorem ZO (R:aq) (lim n:Nat) (K:aa→ah→Prop) (a0:aa) (H:ah):F2 R lim n K a0 H=aS R lim n 24 (Bi R lim n K) f69.body (bS [a0]) H (aM [(.tmp 2),(.tmp 3)] K):=by kernel_rfl
theorem ZP (R:aq) (lim n:Nat) (K:aa→ah→Prop):bO R lim n 24 (Bi R lim n K) f69.body (aM [(.tmp 2),(.tmp 3)] K):=⟨(aL (by kernel_rfl)),⟨(aL (by kernel_rfl)),⟨⟨(aL (by kernel_rfl)),(fun T H h=>Nd R lim n K (eV (fX (aL (by kernel_rfl)) (fun _ _ _ h=>h))) _ T H h)⟩,(aL (by kernel_rfl))⟩⟩⟩
theorem ZQ {ap:FuncId→Option bg} (hf:ap 69=some (.code f69)) {n lim:Nat} {K:aa→ah→Prop} {a0:aa} {H:ah} (h:F2 (au.runT ap n) lim n K a0 H):∃v H',au.runT ap (n+1) lim (.fn 69) [a0] H=some (v,H')∧K v H':=by
 rw [ZO] at h
 exact bX hf (by kernel_rfl) (by kernel_rfl) (bw f69.body _ _ _ _ (ZP _ _ _ K) (fun _ _ _ h=>h) h)
def Nf (R:aq) (lim n:Nat) (K:aa→ah→Prop) (t0:aa) (H:ah):Prop:=
ak (dI t0) fun eX=>
ak (aU 0 eX) fun v35=>
ak (aB H none v35) fun v36=>
ak (dI t0) fun v37=>
ak (aU 2 v37) fun eY=>
ak (aB H none eY) fun eo=>
aK (R lim (.fn 31) [eo] H) fun v40 iQ=>
qG none H iQ [v35]∧
aK (R lim (.fn 111) [v36,v40] iQ) fun gw ZR=>
K gw ZR
def ya (R:aq) (lim n:Nat) (K:aa→ah→Prop) (ay:aa→aa→aa→aa→ah→Prop) (t0 t8 t9 t10:aa) (H:ah):Prop:=
ak (av .lss t10 t9) fun v44=>
ak (aV v44) fun Ng=>
(Ng=true→(ak (cD none 1 t8 t10) fun v46=>
ak (aB H none v46) fun gx=>
ak (dI t0) fun fZ=>
ak (aU 0 fZ) fun v49=>
ak (aB H none v49) fun fR=>
ak (dI t0) fun v51=>
ak (aU 2 v51) fun gy=>
ak (aB H none gy) fun v53=>
aK (R H.next (.fn 31) [v53] H) fun iO mQ=>
ak (dI t0) fun jg=>
ak (aU 1 jg) fun v57=>
ak (aB mQ none v57) fun j8=>
aK (R lim (.fn 117) [j8,gx] mQ) fun v59 F5=>
qG none mQ F5 [v49]∧
aK (R lim (.fn 57) [fR,iO,v59] F5) fun j9 jA=>
ak (av .neq j9 (.int .i64 0)) fun v63=>
ak (aV v63) fun Nh=>
(Nh=true→(K j9 jA))∧
(Nh=false→(ak (av .add t10 (.int .i64 1)) fun o9=>
ay t0 t8 t9 o9 jA))))∧
(Ng=false→(Nf R lim n K t0 H))
def qV (R:aq) (lim n:Nat) (K:aa→ah→Prop):Nat→aa→aa→aa→aa→ah→Prop
 | 0,_,_,_,_,_=>False
 | m+1,t0,t8,t9,t10,H=>ya R lim n K (qV R lim n K m) t0 t8 t9 t10 H
def F6 (R:aq) (lim n:Nat) (K:aa→ah→Prop) (a0 a1:aa) (H:ah):Prop:=
ak (bh false a1) fun v1=>
qV R lim n K n a0 a1 v1 (.int .i64 0) H
def Bj (R:aq) (lim n:Nat) (K:aa→ah→Prop):Nat→Tm→ah→Prop
 | 0,T,H=>qV R lim n K n (T 0) (T 8) (T 9) (T 10) H
 | _,_,_=>False
def ZS (R:aq) (lim n:Nat) (K:aa→ah→Prop) (ay:aa→aa→aa→aa→ah→Prop):Nat→Tm→ah→Prop
 | _,_,_=>False
def Ni (R:aq) (lim n:Nat) (K:aa→ah→Prop) (ay:aa→aa→aa→aa→ah→Prop):Kt:=fun ex T H=>match ex with
 | .norm=>ay (T 0) (T 8) (T 9) (T 10) H
 | ex=>(bZ 0 (cE (aS R lim n 44 (Bj R lim n K) Ek) (aM [(.tmp 4)] K))) ex T H
theorem ZT (R:aq) (lim n:Nat) (K:aa→ah→Prop) (ay:aa→aa→aa→aa→ah→Prop) (T:Tm) (H:ah):ya R lim n K ay (T 0) (T 8) (T 9) (T 10) H=aS R lim n 44 (ZS R lim n K ay) xk T H (Ni R lim n K ay):=by kernel_rfl
theorem Nj (R:aq) (lim n:Nat) (K:aa→ah→Prop) {kw:Kt} (hk:∀ex T H,(bZ 0 (cE (aS R lim n 44 (Bj R lim n K) Ek) (aM [(.tmp 4)] K))) ex T H→kw ex T H):∀(m:Nat) (T:Tm) (H:ah),qV R lim n K m (T 0) (T 8) (T 9) (T 10) H→cH (cg R lim n 44 xk) m T H kw
 | 0,_,_,h=>False.elim h
 | m+1,T,H,h=>by
  have hb:∀ex T H,Ni R lim n K (qV R lim n K m) ex T H→(fun ex T H=>match ex with | .norm=>cH (cg R lim n 44 xk) m T H kw | ex=>kw ex T H:Kt) ex T H:=by
   intro ex T H h
   cases ex with
   | norm=>exact Nj R lim n K hk m T H h
   | exit i=>exact hk _ _ _ h
   | ret=>exact hk _ _ _ h
  have h':ya R lim n K (qV R lim n K m) (T 0) (T 8) (T 9) (T 10) H:=h
  rw [ZT] at h'
  exact bw xk T H _ _ (aL (by kernel_rfl)) hb h'
theorem ZU (R:aq) (lim n:Nat) (K:aa→ah→Prop) (a0 a1:aa) (H:ah):F6 R lim n K a0 a1 H=aS R lim n 44 (Bj R lim n K) f70.body (bS [a0,a1]) H (aM [(.tmp 4)] K):=by kernel_rfl
theorem ZV (R:aq) (lim n:Nat) (K:aa→ah→Prop):bO R lim n 44 (Bj R lim n K) f70.body (aM [(.tmp 4)] K):=⟨(aL (by kernel_rfl)),⟨⟨(aL (by kernel_rfl)),(fun T H h=>Nj R lim n K (eV (fX (aL (by kernel_rfl)) (fun _ _ _ h=>h))) _ T H h)⟩,(aL (by kernel_rfl))⟩⟩
theorem ZW {ap:FuncId→Option bg} (hf:ap 70=some (.code f70)) {n lim:Nat} {K:aa→ah→Prop} {a0 a1:aa} {H:ah} (h:F6 (au.runT ap n) lim n K a0 a1 H):∃v H',au.runT ap (n+1) lim (.fn 70) [a0,a1] H=some (v,H')∧K v H':=by
 rw [ZU] at h
 exact bX hf (by kernel_rfl) (by kernel_rfl) (bw f70.body _ _ _ _ (ZV _ _ _ K) (fun _ _ _ h=>h) h)
def F8 (R:aq) (lim n:Nat) (K:aa→ah→Prop) (a0 a1:aa) (H:ah):Prop:=
aK ((cU [(.int .u8 0)] [(0,1,(.int .u8 1))]).map fun cs=>(.sl (some (H.next,0)) 1 (.ex 1),H.push (.cells cs))) fun v1 H2=>
ak (e8 H2 v1) fun v3=>
ak (fo .u64 a0) fun v4=>
aK ((cU AS [(0,1,v4),(1,1,a1)]).map fun cs=>(.sl (some (H2.next,0)) 2 (.ex 2),H2.push (.cells cs))) fun v5 H6=>
aK (R H6.next (.fn 118) [v5] H6) fun v7 H8=>
ak (av .add v3 v7) fun v9=>
K v9 H8
def Nk (R:aq) (lim n:Nat) (K:aa→ah→Prop):Nat→Tm→ah→Prop
 | _,_,_=>False
theorem ZX (R:aq) (lim n:Nat) (K:aa→ah→Prop) (a0 a1:aa) (H:ah):F8 R lim n K a0 a1 H=aS R lim n 13 (Nk R lim n K) f71.body (bS [a0,a1]) H (aM [(.tmp 4)] K):=by kernel_rfl
theorem ZY (R:aq) (lim n:Nat) (K:aa→ah→Prop):bO R lim n 13 (Nk R lim n K) f71.body (aM [(.tmp 4)] K):=(aL (by kernel_rfl))
theorem ZZ {ap:FuncId→Option bg} (hf:ap 71=some (.code f71)) {n lim:Nat} {K:aa→ah→Prop} {a0 a1:aa} {H:ah} (h:F8 (au.runT ap n) lim n K a0 a1 H):∃v H',au.runT ap (n+1) lim (.fn 71) [a0,a1] H=some (v,H')∧K v H':=by
 rw [ZX] at h
 exact bX hf (by kernel_rfl) (by kernel_rfl) (bw f71.body _ _ _ _ (ZY _ _ _ K) (fun _ _ _ h=>h) h)
def F9 (R:aq) (lim n:Nat) (K:aa→ah→Prop) (a0:aa) (H:ah):Prop:=
ak (dZ false .ptr a0 (.ptr none)) fun v1=>
ak (gd (some (v1,false)) (some a0)) fun v2=>
ak (gd (some (v1,false)) (dI v2)) fun v3=>
ak (gd (some (v1,false)) (aU 0 v3)) fun v4=>
ak (gd (some (v1,false)) (aB H none v4)) fun v5=>
ak (gd (some (v1,false)) (dZ false .map v5 (.map none))) fun v6=>
ak (bH v1 (.bool true) v6) fun v7=>
K v7 H
def Nl (R:aq) (lim n:Nat) (K:aa→ah→Prop):Nat→Tm→ah→Prop
 | _,_,_=>False
theorem Z0 (R:aq) (lim n:Nat) (K:aa→ah→Prop) (a0:aa) (H:ah):F9 R lim n K a0 H=aS R lim n 12 (Nl R lim n K) f72.body (bS [a0]) H (aM [(.tmp 2)] K):=by kernel_rfl
theorem Z1 (R:aq) (lim n:Nat) (K:aa→ah→Prop):bO R lim n 12 (Nl R lim n K) f72.body (aM [(.tmp 2)] K):=(aL (by kernel_rfl))
theorem Z2 {ap:FuncId→Option bg} (hf:ap 72=some (.code f72)) {n lim:Nat} {K:aa→ah→Prop} {a0:aa} {H:ah} (h:F9 (au.runT ap n) lim n K a0 H):∃v H',au.runT ap (n+1) lim (.fn 72) [a0] H=some (v,H')∧K v H':=by
 rw [Z0] at h
 exact bX hf (by kernel_rfl) (by kernel_rfl) (bw f72.body _ _ _ _ (Z1 _ _ _ K) (fun _ _ _ h=>h) h)
def yc (R:aq) (lim n:Nat) (K:aa→ah→Prop) (t3 t6 t8:aa) (H:ah):Prop:=
ak (aU 0 t3) fun v32=>
ak (aB H none v32) fun v33=>
ak (fN 1 v33 none (some t8) none) fun eX=>
aK (R lim (.fn 104) [eX] H) fun v35 pq=>
ak (aU 0 t3) fun v37=>
ak (bp lim pq 1 v37 v35) fun xZ=>
ak (aU 1 t3) fun eo=>
ak (bp lim xZ 1 eo t8) fun A8=>
ak (aB A8 (some 4) t3) fun v41=>
ak (bp lim A8 4 t6 v41) fun yd=>
ak (aB yd (some 4) t6) fun fQ=>
K fQ yd
def Bk (R:aq) (lim n:Nat) (K:aa→ah→Prop) (t3 t6 t8 t9 t10:aa) (H:ah):Prop:=
ak (dS t9 none (some t10)) fun jg=>
ak (aU 3 t3) fun v57=>
ak (bp lim H 1 v57 jg) fun Z3=>
yc R lim n K t3 t6 t8 Z3
def Bl (R:aq) (lim n:Nat) (K:aa→ah→Prop) (t2 t3 t4 t6 t7:aa) (H:ah):Prop:=
ak (aU 1 t3) fun v9=>
ak (aB H none v9) fun v10=>
ak (av .add v10 t7) fun v11=>
ak (aU 2 t3) fun v12=>
ak (aB H none v12) fun cO=>
ak (gd (some (cO,false)) (some v11)) fun dw=>
ak (gd (some (cO,false)) (aU 0 t3)) fun cY=>
ak (gd (some (cO,false)) (aB H none cY)) fun cy=>
ak (gd (some (cO,false)) (bh false cy)) fun cu=>
ak (gd (some (cO,false)) (av .lss dw cu)) fun cW=>
ak (bH cO (.bool true) cW) fun cz=>
ak (aU 2 t3) fun v20=>
ak (bp lim H 1 v20 cz) fun gu=>
ak (aU 0 t3) fun v22=>
ak (aB gu none v22) fun v23=>
ak (bh false v23) fun v24=>
ak (av .lss v11 v24) fun v25=>
ak (gd (some (v25,true)) (some t2)) fun v26=>
ak (gd (some (v25,true)) (aU 1 t4)) fun v27=>
ak (gd (some (v25,true)) (aB gu none v27)) fun v28=>
ak (gd (some (v25,true)) (bh false v28)) fun v29=>
ak (gd (some (v25,true)) (av .lss v26 v29)) fun v30=>
ak (bH v25 v30 (.bool false)) fun v31=>
ak (aV v31) fun yf=>
(yf=true→(ak (aU 0 t3) fun gN=>
ak (aB gu none gN) fun v46=>
ak (cD none 1 v46 v11) fun gx=>
ak (aB gu none gx) fun fZ=>
ak (aU 1 t4) fun v49=>
ak (aB gu none v49) fun fR=>
ak (cD none 1 fR t2) fun v51=>
ak (aB gu none v51) fun gy=>
ak (bh true fZ) fun v53=>
ak (av .rem gy v53) fun iO=>
ak (av .lss iO (.int .i64 0)) fun mM=>
ak (aV mM) fun Nn=>
(Nn=true→(ak (bh true fZ) fun jL=>
ak (av .add iO jL) fun j9=>
Bk R lim n K t3 t6 v11 fZ j9 gu))∧
(Nn=false→(Bk R lim n K t3 t6 v11 fZ iO gu))))∧
(yf=false→(yc R lim n K t3 t6 v11 gu))
def Ga (R:aq) (lim n:Nat) (K:aa→ah→Prop) (a0 a1 a2:aa) (H:ah):Prop:=
aK (if (a0).cells.all (·.one) then some (.ptr (some (H.next,0)),H.push (.cells (a0).cells)) else none) fun v1 H2=>
aK (if (a1).cells.all (·.one) then some (.ptr (some (H2.next,0)),H2.push (.cells (a1).cells)) else none) fun v3 H4=>
ak (aU 0 v3) fun v5=>
ak (aB (H4.push (.cells fP)) none v5) fun v6=>
ak (bh false v6) fun v7=>
ak (av .lss a2 v7) fun v8=>
ak (aV v8) fun No=>
(No=true→(ak (aU 0 v3) fun v63=>
ak (aB (H4.push (.cells fP)) none v63) fun v64=>
ak (cD none 1 v64 a2) fun o9=>
ak (aB (H4.push (.cells fP)) none o9) fun FQ=>
ak (iL true [FQ,(.int .i64 0)]) fun qN=>
ak (aU 0 v1) fun sF=>
ak (aB (H4.push (.cells fP)) none sF) fun sG=>
ak (bh false sG) fun v70=>
ak (aU 1 v1) fun xY=>
ak (aB (H4.push (.cells fP)) none xY) fun v72=>
ak (av .sub v70 v72) fun Gb=>
ak (iL false [qN,Gb]) fun FA=>
Bl R lim n K a2 v1 v3 (.ptr (some (H4.next,0))) FA (H4.push (.cells fP))))∧
(No=false→(Bl R lim n K a2 v1 v3 (.ptr (some (H4.next,0))) (.int .i64 0) (H4.push (.cells fP))))
def Np (R:aq) (lim n:Nat) (K:aa→ah→Prop):Nat→Tm→ah→Prop
 | _,_,_=>False
theorem Z4 (R:aq) (lim n:Nat) (K:aa→ah→Prop) (a0 a1 a2:aa) (H:ah):Ga R lim n K a0 a1 a2 H=aS R lim n 87 (Np R lim n K) f73.body (bS [a0,a1,a2]) H (aM [(.cell 6 (some 4))] K):=by kernel_rfl
theorem Z5 (R:aq) (lim n:Nat) (K:aa→ah→Prop):bO R lim n 87 (Np R lim n K) f73.body (aM [(.cell 6 (some 4))] K):=(aL (by kernel_rfl))
theorem Z6 {ap:FuncId→Option bg} (hf:ap 73=some (.code f73)) {n lim:Nat} {K:aa→ah→Prop} {a0 a1 a2:aa} {H:ah} (h:Ga (au.runT ap n) lim n K a0 a1 a2 H):∃v H',au.runT ap (n+1) lim (.fn 73) [a0,a1,a2] H=some (v,H')∧K v H':=by
 rw [Z4] at h
 exact bX hf (by kernel_rfl) (by kernel_rfl) (bw f73.body _ _ _ _ (Z5 _ _ _ K) (fun _ _ _ h=>h) h)
def Gc (R:aq) (lim n:Nat) (K:aa→ah→Prop) (a0 a1:aa) (H:ah):Prop:=
aK (R lim (.fn 119) [a1] H) fun v1 H2=>
ak (bF 0 v1) fun v3=>
ak (bF 1 v1) fun v4=>
ak (bF 2 v1) fun v5=>
ak (fE .not v5) fun v6=>
ak (gd (some (v6,false)) (some a1)) fun v7=>
ak (gd (some (v6,false)) (bh true v7)) fun v8=>
ak (gd (some (v6,false)) (some v4)) fun v9=>
ak (gd (some (v6,false)) (av .sub v8 v9)) fun v10=>
ak (gd (some (v6,false)) (av .lss v10 (.int .i64 4))) fun v11=>
ak (bH v6 (.bool true) v11) fun v12=>
ak (gd (some (v12,false)) (some v3)) fun cO=>
ak (gd (some (v12,false)) (some a1)) fun dw=>
ak (gd (some (v12,false)) (bh true dw)) fun cY=>
ak (gd (some (v12,false)) (some v4)) fun cy=>
ak (gd (some (v12,false)) (av .sub cY cy)) fun cu=>
ak (gd (some (v12,false)) (av .sub cu (.int .i64 4))) fun cW=>
ak (gd (some (v12,false)) (fo .u64 cW)) fun cz=>
ak (gd (some (v12,false)) (av .gtr cO cz)) fun v20=>
ak (bH v12 (.bool true) v20) fun v21=>
ak (aV v21) fun yg=>
(yg=true→(K (.bq [(.str []),(.int .i64 0)]) H2))∧
(yg=false→(ak (av .add v4 (.int .i64 4)) fun v23=>
ak (fo .i64 v3) fun v24=>
ak (av .add v23 v24) fun v25=>
ak (dS a1 (some v4) none) fun v26=>
aK (R lim (.fn 120) [v26,(.int .i64 4)] H2) fun v27 gO=>
ak (bF 0 v27) fun v29=>
ak (bF 1 v27) fun v30=>
ak (av .add v4 (.int .i64 4)) fun v31=>
ak (dS a1 (some v31) (some v25)) fun v32=>
aK ((cU [(.str [])] [(0,1,v32)]).map fun cs=>(.sl (some (gO.next,0)) 1 (.ex 1),gO.push (.cells cs))) fun v33 Bn=>
aK (R lim (.fn 121) [a0,v33] Bn) fun v35 pq=>
ak (fo .u64 v35) fun v37=>
ak (av .neq v29 v37) fun eY=>
ak (aV eY) fun yh=>
(yh=true→(K (.bq [(.str []),(.int .i64 0)]) pq))∧
(yh=false→(K (.bq [v32,v25]) pq))))
def Nq (R:aq) (lim n:Nat) (K:aa→ah→Prop):Nat→Tm→ah→Prop
 | _,_,_=>False
theorem Z7 (R:aq) (lim n:Nat) (K:aa→ah→Prop) (a0 a1:aa) (H:ah):Gc R lim n K a0 a1 H=aS R lim n 64 (Nq R lim n K) f74.body (bS [a0,a1]) H (aM [(.tmp 4),(.tmp 5)] K):=by kernel_rfl
theorem Z8 (R:aq) (lim n:Nat) (K:aa→ah→Prop):bO R lim n 64 (Nq R lim n K) f74.body (aM [(.tmp 4),(.tmp 5)] K):=(aL (by kernel_rfl))
theorem Z9 {ap:FuncId→Option bg} (hf:ap 74=some (.code f74)) {n lim:Nat} {K:aa→ah→Prop} {a0 a1:aa} {H:ah} (h:Gc (au.runT ap n) lim n K a0 a1 H):∃v H',au.runT ap (n+1) lim (.fn 74) [a0,a1] H=some (v,H')∧K v H':=by
 rw [Z7] at h
 exact bX hf (by kernel_rfl) (by kernel_rfl) (bw f74.body _ _ _ _ (Z8 _ _ _ K) (fun _ _ _ h=>h) h)
def Gd (R:aq) (lim n:Nat) (K:aa→ah→Prop) (a0:aa) (H:ah):Prop:=
ak (av .eql a0 (.str [])) fun v1=>
ak (gd (some (v1,false)) (some a0)) fun v2=>
ak (gd (some (v1,false)) (e7 v2 (.int .i64 0))) fun v3=>
ak (gd (some (v1,false)) (av .neq v3 (.int .u8 1))) fun v4=>
ak (bH v1 (.bool true) v4) fun v5=>
ak (aV v5) fun b6=>
(b6=true→(K (.bq [(.int .u64 0),(.int .u64 0),(.bool false)]) H))∧
(b6=false→(ak (dS a0 (some (.int .i64 1)) none) fun v7=>
aK (R lim (.fn 119) [v7] H) fun v8 H9=>
ak (bF 0 v8) fun v10=>
ak (bF 1 v8) fun v11=>
ak (bF 2 v8) fun v12=>
ak (fE .not v12) fun cO=>
ak (aV cO) fun mU=>
(mU=true→(K (.bq [(.int .u64 0),(.int .u64 0),(.bool false)]) H9))∧
(mU=false→(ak (av .add (.int .i64 1) v11) fun cY=>
ak (dS a0 (some cY) none) fun cy=>
aK (R lim (.fn 119) [cy] H9) fun cu mL=>
ak (bF 0 cu) fun cz=>
ak (bF 1 cu) fun v20=>
ak (bF 2 cu) fun v21=>
ak (gd (some (v21,true)) (some a0)) fun v22=>
ak (gd (some (v21,true)) (bh true v22)) fun v23=>
ak (gd (some (v21,true)) (some v11)) fun v24=>
ak (gd (some (v21,true)) (av .add (.int .i64 1) v24)) fun v25=>
ak (gd (some (v21,true)) (some v20)) fun v26=>
ak (gd (some (v21,true)) (av .add v25 v26)) fun v27=>
ak (gd (some (v21,true)) (av .eql v23 v27)) fun v28=>
ak (bH v21 v28 (.bool false)) fun v29=>
K (.bq [v10,cz,v29]) mL))))
def Nr (R:aq) (lim n:Nat) (K:aa→ah→Prop):Nat→Tm→ah→Prop
 | _,_,_=>False
theorem aaa (R:aq) (lim n:Nat) (K:aa→ah→Prop) (a0:aa) (H:ah):Gd R lim n K a0 H=aS R lim n 44 (Nr R lim n K) f75.body (bS [a0]) H (aM [(.tmp 2),(.tmp 3),(.tmp 4)] K):=by kernel_rfl
theorem aab (R:aq) (lim n:Nat) (K:aa→ah→Prop):bO R lim n 44 (Nr R lim n K) f75.body (aM [(.tmp 2),(.tmp 3),(.tmp 4)] K):=(aL (by kernel_rfl))
theorem aac {ap:FuncId→Option bg} (hf:ap 75=some (.code f75)) {n lim:Nat} {K:aa→ah→Prop} {a0:aa} {H:ah} (h:Gd (au.runT ap n) lim n K a0 H):∃v H',au.runT ap (n+1) lim (.fn 75) [a0] H=some (v,H')∧K v H':=by
 rw [aaa] at h
 exact bX hf (by kernel_rfl) (by kernel_rfl) (bw f75.body _ _ _ _ (aab _ _ _ K) (fun _ _ _ h=>h) h)
def Ge (R:aq) (lim n:Nat) (K:aa→ah→Prop) (a0:aa) (H:ah):Prop:=
ak (av .eql a0 (.str [])) fun v1=>
ak (aV v1) fun b2=>
(b2=true→(ak (fW cV []) fun v3=>
ak (bp lim (H.push (.cells cV)) 16 (.ptr (some (H.next,0))) v3) fun H4=>
ak (aB H4 (some 16) (.ptr (some (H.next,0)))) fun v5=>
K (.bq [v5,(.bool false)]) H4))∧
(b2=false→(ak (e7 a0 (.int .i64 0)) fun v6=>
ak (fW cV [(0,1,v6)]) fun v7=>
ak (bp lim ((H.push (.cells cV)).push (.cells cV)) 16 (.ptr (some ((H.push (.cells cV)).next,0))) v7) fun H8=>
ak (dS a0 (some (.int .i64 1)) none) fun v9=>
ak (aU 0 (.ptr (some ((H.push (.cells cV)).next,0)))) fun v10=>
ak (aB H8 none v10) fun v11=>
ak (av .eql v11 (.int .u8 2)) fun v12=>
ak (aV v12) fun j4=>
(j4=true→(aK (R lim (.fn 119) [v9] H8) fun dw ia=>
ak (bF 0 dw) fun cy=>
ak (bF 1 dw) fun cu=>
ak (bF 2 dw) fun cW=>
ak (fE .not cW) fun cz=>
ak (gd (some (cz,false)) (some v9)) fun v20=>
ak (gd (some (cz,false)) (bh true v20)) fun v21=>
ak (gd (some (cz,false)) (some cu)) fun v22=>
ak (gd (some (cz,false)) (av .add v22 (.int .i64 1))) fun v23=>
ak (gd (some (cz,false)) (av .neq v21 v23)) fun v24=>
ak (bH cz (.bool true) v24) fun v25=>
ak (aV v25) fun mS=>
(mS=true→(ak (fW cV []) fun v27=>
ak (bp lim ia 16 (.ptr (some (H.next,0))) v27) fun gO=>
ak (aB gO (some 16) (.ptr (some (H.next,0)))) fun v29=>
K (.bq [v29,(.bool false)]) gO))∧
(mS=false→(ak (e7 v9 cu) fun v30=>
ak (aU 1 (.ptr (some ((H.push (.cells cV)).next,0)))) fun v31=>
ak (bp lim ia 1 v31 cy) fun Bo=>
ak (aU 2 (.ptr (some ((H.push (.cells cV)).next,0)))) fun v33=>
ak (bp lim Bo 1 v33 v30) fun Bn=>
ak (aB Bn (some 16) (.ptr (some ((H.push (.cells cV)).next,0)))) fun v35=>
ak (bp lim Bn 16 (.ptr (some (H.next,0))) v35) fun pq=>
ak (aB pq (some 16) (.ptr (some (H.next,0)))) fun v37=>
K (.bq [v37,(.bool true)]) pq))))∧
(j4=false→(ak (av .eql v11 (.int .u8 3)) fun eY=>
ak (aV eY) fun yh=>
(yh=true→(aK (R lim (.fn 122) [v9] H8) fun v40 iQ=>
ak (bF 0 v40) fun gw=>
ak (bF 1 v40) fun fQ=>
ak (bp lim (iQ.push (.cells eW)) 13 (.ptr (some (iQ.next,0))) gw) fun nL=>
ak (aB nL (some 13) (.ptr (some (iQ.next,0)))) fun gN=>
ak (aU 3 (.ptr (some ((H.push (.cells cV)).next,0)))) fun v46=>
ak (bp lim nL 13 v46 gN) fun Gf=>
ak (fE .not fQ) fun fZ=>
ak (aV fZ) fun yj=>
(yj=true→(ak (fW cV []) fun fR=>
ak (bp lim Gf 16 (.ptr (some (H.next,0))) fR) fun Ns=>
ak (aB Ns (some 16) (.ptr (some (H.next,0)))) fun gy=>
K (.bq [gy,(.bool false)]) Ns))∧
(yj=false→(ak (aB Gf (some 16) (.ptr (some ((H.push (.cells cV)).next,0)))) fun v53=>
ak (bp lim Gf 16 (.ptr (some (H.next,0))) v53) fun Nt=>
ak (aB Nt (some 16) (.ptr (some (H.next,0)))) fun mM=>
K (.bq [mM,(.bool true)]) Nt))))∧
(yh=false→(ak (fW cV []) fun jg=>
ak (bp lim H8 16 (.ptr (some (H.next,0))) jg) fun Bp=>
ak (aB Bp (some 16) (.ptr (some (H.next,0)))) fun j8=>
K (.bq [j8,(.bool false)]) Bp))))))
def Nu (R:aq) (lim n:Nat) (K:aa→ah→Prop):Nat→Tm→ah→Prop
 | _,_,_=>False
theorem aad (R:aq) (lim n:Nat) (K:aa→ah→Prop) (a0:aa) (H:ah):Ge R lim n K a0 H=aS R lim n 60 (Nu R lim n K) f76.body (bS [a0]) H (aM [(.cell 2 (some 16)),(.tmp 3)] K):=by kernel_rfl
theorem aae (R:aq) (lim n:Nat) (K:aa→ah→Prop):bO R lim n 60 (Nu R lim n K) f76.body (aM [(.cell 2 (some 16)),(.tmp 3)] K):=(aL (by kernel_rfl))
theorem aaf {ap:FuncId→Option bg} (hf:ap 76=some (.code f76)) {n lim:Nat} {K:aa→ah→Prop} {a0:aa} {H:ah} (h:Ge (au.runT ap n) lim n K a0 H):∃v H',au.runT ap (n+1) lim (.fn 76) [a0] H=some (v,H')∧K v H':=by
 rw [aad] at h
 exact bX hf (by kernel_rfl) (by kernel_rfl) (bw f76.body _ _ _ _ (aae _ _ _ K) (fun _ _ _ h=>h) h)
def Nv (R:aq) (lim n:Nat) (K:aa→ah→Prop) (H:ah):Prop:=
K (.bool true) H
def ym (R:aq) (lim n:Nat) (K:aa→ah→Prop) (ay:aa→aa→aa→ah→Prop) (t0 t1 t5:aa) (H:ah):Prop:=
ak (bh false t0) fun cY=>
ak (av .lss t5 cY) fun cy=>
ak (aV cy) fun mN=>
(mN=true→(ak (cD none 16 t0 t5) fun cW=>
ak (aB H (some 16) cW) fun cz=>
ak (cD none 16 t1 t5) fun v20=>
ak (aB H (some 16) v20) fun v21=>
ak (dZ true (.cells [(.int .u8),(.int .u64),(.int .u8),(.int .u64),(.int .u64),(.int .u8),(.int .u8),(.int .u8),(.int .u8),(.int .u8),(.int .u8),(.int .u8),(.int .u8),(.int .u8),(.int .u8),.str]) cz v21) fun v22=>
ak (aV v22) fun mT=>
(mT=true→(K (.bool false) H))∧
(mT=false→(ak (av .add t5 (.int .i64 1)) fun v24=>
ay t0 t1 v24 H))))∧
(mN=false→(Nv R lim n K H))
def qW (R:aq) (lim n:Nat) (K:aa→ah→Prop):Nat→aa→aa→aa→ah→Prop
 | 0,_,_,_,_=>False
 | m+1,t0,t1,t5,H=>ym R lim n K (qW R lim n K m) t0 t1 t5 H
def Gg (R:aq) (lim n:Nat) (K:aa→ah→Prop) (a0 a1:aa) (H:ah):Prop:=
ak (bh false a0) fun v1=>
ak (bh false a1) fun v2=>
ak (av .neq v1 v2) fun v3=>
ak (aV v3) fun b4=>
(b4=true→(K (.bool false) H))∧
(b4=false→(qW R lim n K n a0 a1 (.int .i64 0) H))
def Bq (R:aq) (lim n:Nat) (K:aa→ah→Prop):Nat→Tm→ah→Prop
 | 0,T,H=>qW R lim n K n (T 0) (T 1) (T 5) H
 | _,_,_=>False
def aag (R:aq) (lim n:Nat) (K:aa→ah→Prop) (ay:aa→aa→aa→ah→Prop):Nat→Tm→ah→Prop
 | _,_,_=>False
def Nw (R:aq) (lim n:Nat) (K:aa→ah→Prop) (ay:aa→aa→aa→ah→Prop):Kt:=fun ex T H=>match ex with
 | .norm=>ay (T 0) (T 1) (T 5) H
 | ex=>(bZ 0 (cE (aS R lim n 26 (Bq R lim n K) El) (aM [(.tmp 4)] K))) ex T H
theorem aah (R:aq) (lim n:Nat) (K:aa→ah→Prop) (ay:aa→aa→aa→ah→Prop) (T:Tm) (H:ah):ym R lim n K ay (T 0) (T 1) (T 5) H=aS R lim n 26 (aag R lim n K ay) xl T H (Nw R lim n K ay):=by kernel_rfl
theorem Nx (R:aq) (lim n:Nat) (K:aa→ah→Prop) {kw:Kt} (hk:∀ex T H,(bZ 0 (cE (aS R lim n 26 (Bq R lim n K) El) (aM [(.tmp 4)] K))) ex T H→kw ex T H):∀(m:Nat) (T:Tm) (H:ah),qW R lim n K m (T 0) (T 1) (T 5) H→cH (cg R lim n 26 xl) m T H kw
 | 0,_,_,h=>False.elim h
 | m+1,T,H,h=>by
  have hb:∀ex T H,Nw R lim n K (qW R lim n K m) ex T H→(fun ex T H=>match ex with | .norm=>cH (cg R lim n 26 xl) m T H kw | ex=>kw ex T H:Kt) ex T H:=by
   intro ex T H h
   cases ex with
   | norm=>exact Nx R lim n K hk m T H h
   | exit i=>exact hk _ _ _ h
   | ret=>exact hk _ _ _ h
  have h':ym R lim n K (qW R lim n K m) (T 0) (T 1) (T 5) H:=h
  rw [aah] at h'
  exact bw xl T H _ _ (aL (by kernel_rfl)) hb h'
theorem aai (R:aq) (lim n:Nat) (K:aa→ah→Prop) (a0 a1:aa) (H:ah):Gg R lim n K a0 a1 H=aS R lim n 26 (Bq R lim n K) f77.body (bS [a0,a1]) H (aM [(.tmp 4)] K):=by kernel_rfl
theorem aaj (R:aq) (lim n:Nat) (K:aa→ah→Prop):bO R lim n 26 (Bq R lim n K) f77.body (aM [(.tmp 4)] K):=⟨(aL (by kernel_rfl)),⟨(aL (by kernel_rfl)),⟨⟨(aL (by kernel_rfl)),(fun T H h=>Nx R lim n K (eV (fX (aL (by kernel_rfl)) (fun _ _ _ h=>h))) _ T H h)⟩,(aL (by kernel_rfl))⟩⟩⟩
theorem aak {ap:FuncId→Option bg} (hf:ap 77=some (.code f77)) {n lim:Nat} {K:aa→ah→Prop} {a0 a1:aa} {H:ah} (h:Gg (au.runT ap n) lim n K a0 a1 H):∃v H',au.runT ap (n+1) lim (.fn 77) [a0,a1] H=some (v,H')∧K v H':=by
 rw [aai] at h
 exact bX hf (by kernel_rfl) (by kernel_rfl) (bw f77.body _ _ _ _ (aaj _ _ _ K) (fun _ _ _ h=>h) h)
def Gh (R:aq) (lim n:Nat) (K:aa→ah→Prop) (a0 a1:aa) (H:ah):Prop:=
aK (R lim (.fn 126) [a0,a1] H) fun v1 H2=>
K v1 H2
def Ny (R:aq) (lim n:Nat) (K:aa→ah→Prop):Nat→Tm→ah→Prop
 | _,_,_=>False
theorem aal (R:aq) (lim n:Nat) (K:aa→ah→Prop) (a0 a1:aa) (H:ah):Gh R lim n K a0 a1 H=aS R lim n 8 (Ny R lim n K) f80.body (bS [a0,a1]) H (aM [(.tmp 4)] K):=by kernel_rfl
theorem aam (R:aq) (lim n:Nat) (K:aa→ah→Prop):bO R lim n 8 (Ny R lim n K) f80.body (aM [(.tmp 4)] K):=(aL (by kernel_rfl))
theorem aan {ap:FuncId→Option bg} (hf:ap 80=some (.code f80)) {n lim:Nat} {K:aa→ah→Prop} {a0 a1:aa} {H:ah} (h:Gh (au.runT ap n) lim n K a0 a1 H):∃v H',au.runT ap (n+1) lim (.fn 80) [a0,a1] H=some (v,H')∧K v H':=by
 rw [aal] at h
 exact bX hf (by kernel_rfl) (by kernel_rfl) (bw f80.body _ _ _ _ (aam _ _ _ K) (fun _ _ _ h=>h) h)
def Gi (R:aq) (lim n:Nat) (K:aa→ah→Prop) (a0:aa) (H:ah):Prop:=
aK (R lim (.fn 72) [a0] H) fun v1 H2=>
ak (aV v1) fun b3=>
(b3=true→(K (.int .i64 2) H2))∧
(b3=false→(ak (dI a0) fun v4=>
ak (aU 1 v4) fun v5=>
ak (aB H2 none v5) fun v6=>
ak (aV v6) fun b7=>
(b7=true→(K (.int .i64 7) H2))∧
(b7=false→(K (.int .i64 0) H2))))
def Nz (R:aq) (lim n:Nat) (K:aa→ah→Prop):Nat→Tm→ah→Prop
 | _,_,_=>False
theorem aao (R:aq) (lim n:Nat) (K:aa→ah→Prop) (a0:aa) (H:ah):Gi R lim n K a0 H=aS R lim n 11 (Nz R lim n K) f83.body (bS [a0]) H (aM [(.tmp 2)] K):=by kernel_rfl
theorem aap (R:aq) (lim n:Nat) (K:aa→ah→Prop):bO R lim n 11 (Nz R lim n K) f83.body (aM [(.tmp 2)] K):=(aL (by kernel_rfl))
theorem aaq {ap:FuncId→Option bg} (hf:ap 83=some (.code f83)) {n lim:Nat} {K:aa→ah→Prop} {a0:aa} {H:ah} (h:Gi (au.runT ap n) lim n K a0 H):∃v H',au.runT ap (n+1) lim (.fn 83) [a0] H=some (v,H')∧K v H':=by
 rw [aao] at h
 exact bX hf (by kernel_rfl) (by kernel_rfl) (bw f83.body _ _ _ _ (aap _ _ _ K) (fun _ _ _ h=>h) h)
def Gj (R:aq) (lim n:Nat) (K:aa→ah→Prop) (a0 a1:aa) (H:ah):Prop:=
aK (R lim (.fn 72) [a0] H) fun v1 H2=>
ak (aV v1) fun b3=>
(b3=true→(K (.bq [(.int .i64 0),(.int .i64 0)]) H2))∧
(b3=false→(ak (dI a0) fun v4=>
ak (aU 0 v4) fun v5=>
ak (aB H2 none v5) fun v6=>
ak (jV H2 false [.str] (.agg [(.sl none 0 (.ex 0)),(.int .i64 0),(.bool false),(.str [])]) false v6 a1) fun v7=>
ak (bp lim (H2.push (.cells fP)) 4 (.ptr (some (H2.next,0))) v7) fun H8=>
ak (aU 0 (.ptr (some (H2.next,0)))) fun v9=>
ak (aB H8 none v9) fun v10=>
ak (bh false v10) fun v11=>
ak (aU 1 (.ptr (some (H2.next,0)))) fun v12=>
ak (aB H8 none v12) fun cO=>
K (.bq [v11,cO]) H8))
def NA (R:aq) (lim n:Nat) (K:aa→ah→Prop):Nat→Tm→ah→Prop
 | _,_,_=>False
theorem aar (R:aq) (lim n:Nat) (K:aa→ah→Prop) (a0 a1:aa) (H:ah):Gj R lim n K a0 a1 H=aS R lim n 20 (NA R lim n K) f85.body (bS [a0,a1]) H (aM [(.tmp 4),(.tmp 5)] K):=by kernel_rfl
theorem aas (R:aq) (lim n:Nat) (K:aa→ah→Prop):bO R lim n 20 (NA R lim n K) f85.body (aM [(.tmp 4),(.tmp 5)] K):=(aL (by kernel_rfl))
theorem aat {ap:FuncId→Option bg} (hf:ap 85=some (.code f85)) {n lim:Nat} {K:aa→ah→Prop} {a0 a1:aa} {H:ah} (h:Gj (au.runT ap n) lim n K a0 a1 H):∃v H',au.runT ap (n+1) lim (.fn 85) [a0,a1] H=some (v,H')∧K v H':=by
 rw [aar] at h
 exact bX hf (by kernel_rfl) (by kernel_rfl) (bw f85.body _ _ _ _ (aas _ _ _ K) (fun _ _ _ h=>h) h)
def Gk (R:aq) (lim n:Nat) (K:aa→ah→Prop) (a0:aa) (H:ah):Prop:=
aK (R lim (.fn 72) [a0] H) fun v1 H2=>
ak (gd (some (v1,false)) (some a0)) fun v3=>
ak (gd (some (v1,false)) (dI v3)) fun v4=>
ak (gd (some (v1,false)) (aU 1 v4)) fun v5=>
ak (gd (some (v1,false)) (aB H2 none v5)) fun v6=>
ak (bH v1 (.bool true) v6) fun v7=>
K v7 H2
def NB (R:aq) (lim n:Nat) (K:aa→ah→Prop):Nat→Tm→ah→Prop
 | _,_,_=>False
theorem aau (R:aq) (lim n:Nat) (K:aa→ah→Prop) (a0:aa) (H:ah):Gk R lim n K a0 H=aS R lim n 11 (NB R lim n K) f96.body (bS [a0]) H (aM [(.tmp 2)] K):=by kernel_rfl
theorem aav (R:aq) (lim n:Nat) (K:aa→ah→Prop):bO R lim n 11 (NB R lim n K) f96.body (aM [(.tmp 2)] K):=(aL (by kernel_rfl))
theorem aaw {ap:FuncId→Option bg} (hf:ap 96=some (.code f96)) {n lim:Nat} {K:aa→ah→Prop} {a0:aa} {H:ah} (h:Gk (au.runT ap n) lim n K a0 H):∃v H',au.runT ap (n+1) lim (.fn 96) [a0] H=some (v,H')∧K v H':=by
 rw [aau] at h
 exact bX hf (by kernel_rfl) (by kernel_rfl) (bw f96.body _ _ _ _ (aav _ _ _ K) (fun _ _ _ h=>h) h)
def Gm (R:aq) (lim n:Nat) (K:aa→ah→Prop) (a0:aa) (H:ah):Prop:=
ak (av .neq a0 (.str [])) fun v1=>
ak (gd (some (v1,true)) (some a0)) fun v2=>
ak (gd (some (v1,true)) (bh true v2)) fun v3=>
ak (gd (some (v1,true)) (av .leq v3 (.int .i64 32))) fun v4=>
ak (bH v1 v4 (.bool false)) fun v5=>
K v5 H
def NC (R:aq) (lim n:Nat) (K:aa→ah→Prop):Nat→Tm→ah→Prop
 | _,_,_=>False
theorem aax (R:aq) (lim n:Nat) (K:aa→ah→Prop) (a0:aa) (H:ah):Gm R lim n K a0 H=aS R lim n 10 (NC R lim n K) f102.body (bS [a0]) H (aM [(.tmp 2)] K):=by kernel_rfl
theorem aay (R:aq) (lim n:Nat) (K:aa→ah→Prop):bO R lim n 10 (NC R lim n K) f102.body (aM [(.tmp 2)] K):=(aL (by kernel_rfl))
theorem aaz {ap:FuncId→Option bg} (hf:ap 102=some (.code f102)) {n lim:Nat} {K:aa→ah→Prop} {a0:aa} {H:ah} (h:Gm (au.runT ap n) lim n K a0 H):∃v H',au.runT ap (n+1) lim (.fn 102) [a0] H=some (v,H')∧K v H':=by
 rw [aax] at h
 exact bX hf (by kernel_rfl) (by kernel_rfl) (bw f102.body _ _ _ _ (aay _ _ _ K) (fun _ _ _ h=>h) h)
def Br (R:aq) (lim n:Nat) (K:aa→ah→Prop) (t0:aa) (H:ah):Prop:=
aK (R lim (.fn 83) [t0] H) fun v5 H6=>
K v5 H6
def Gn (R:aq) (lim n:Nat) (K:aa→ah→Prop) (a0:aa) (H:ah):Prop:=
ak (dI a0) fun v1=>
ak (aU 2 v1) fun v2=>
ak (aB H none v2) fun v3=>
ak (av .gtr v3 (.int .i64 0)) fun v4=>
ak (aV v4) fun b7=>
(b7=true→(ak (dI a0) fun v8=>
ak (aU 2 v8) fun v9=>
ak (aB H none v9) fun v10=>
ak (av .sub v10 (.int .i64 1)) fun v11=>
ak (dI a0) fun v12=>
ak (aU 2 v12) fun cO=>
ak (bp lim H 1 cO v11) fun mR=>
ak (dI a0) fun cY=>
ak (aU 2 cY) fun cy=>
ak (aB mR none cy) fun cu=>
ak (av .eql cu (.int .i64 0)) fun cW=>
ak (dI a0) fun cz=>
ak (aU 1 cz) fun v20=>
ak (bp lim mR 1 v20 cW) fun gu=>
Br R lim n K a0 gu))∧
(b7=false→(Br R lim n K a0 H))
def ND (R:aq) (lim n:Nat) (K:aa→ah→Prop):Nat→Tm→ah→Prop
 | _,_,_=>False
theorem aaA (R:aq) (lim n:Nat) (K:aa→ah→Prop) (a0:aa) (H:ah):Gn R lim n K a0 H=aS R lim n 25 (ND R lim n K) f103.body (bS [a0]) H (aM [(.tmp 2)] K):=by kernel_rfl
theorem aaB (R:aq) (lim n:Nat) (K:aa→ah→Prop):bO R lim n 25 (ND R lim n K) f103.body (aM [(.tmp 2)] K):=(aL (by kernel_rfl))
theorem aaC {ap:FuncId→Option bg} (hf:ap 103=some (.code f103)) {n lim:Nat} {K:aa→ah→Prop} {a0:aa} {H:ah} (h:Gn (au.runT ap n) lim n K a0 H):∃v H',au.runT ap (n+1) lim (.fn 103) [a0] H=some (v,H')∧K v H':=by
 rw [aaA] at h
 exact bX hf (by kernel_rfl) (by kernel_rfl) (bw f103.body _ _ _ _ (aaB _ _ _ K) (fun _ _ _ h=>h) h)
def Gp (R:aq) (lim n:Nat) (K:aa→ah→Prop) (a0:aa) (H:ah):Prop:=
ak (bh false a0) fun v1=>
ak (bh false a0) fun v2=>
ak (fN 1 a0 none (some v1) (some v2)) fun v3=>
K v3 H
def NF (R:aq) (lim n:Nat) (K:aa→ah→Prop):Nat→Tm→ah→Prop
 | _,_,_=>False
theorem aaD (R:aq) (lim n:Nat) (K:aa→ah→Prop) (a0:aa) (H:ah):Gp R lim n K a0 H=aS R lim n 9 (NF R lim n K) f104.body (bS [a0]) H (aM [(.tmp 2)] K):=by kernel_rfl
theorem aaE (R:aq) (lim n:Nat) (K:aa→ah→Prop):bO R lim n 9 (NF R lim n K) f104.body (aM [(.tmp 2)] K):=(aL (by kernel_rfl))
theorem aaF {ap:FuncId→Option bg} (hf:ap 104=some (.code f104)) {n lim:Nat} {K:aa→ah→Prop} {a0:aa} {H:ah} (h:Gp (au.runT ap n) lim n K a0 H):∃v H',au.runT ap (n+1) lim (.fn 104) [a0] H=some (v,H')∧K v H':=by
 rw [aaD] at h
 exact bX hf (by kernel_rfl) (by kernel_rfl) (bw f104.body _ _ _ _ (aaE _ _ _ K) (fun _ _ _ h=>h) h)
def Gq (R:aq) (lim n:Nat) (K:aa→ah→Prop) (a0 a1:aa) (H:ah):Prop:=
aK (if (a0).cells.all (·.one) then some (.ptr (some (H.next,0)),H.push (.cells (a0).cells)) else none) fun v1 H2=>
aK (if (a1).cells.all (·.one) then some (.ptr (some (H2.next,0)),H2.push (.cells (a1).cells)) else none) fun v3 H4=>
ak (aB H4 none v1) fun v5=>
ak (aB H4 none v3) fun v6=>
ak (some (aa.fn 156 [] [v1,v3])) fun v7=>
aK (R lim (.fn 153) [v5,v6,v7] H4) fun v8 H9=>
K v8 H9
def NG (R:aq) (lim n:Nat) (K:aa→ah→Prop):Nat→Tm→ah→Prop
 | _,_,_=>False
theorem aaG (R:aq) (lim n:Nat) (K:aa→ah→Prop) (a0 a1:aa) (H:ah):Gq R lim n K a0 a1 H=aS R lim n 9 (NG R lim n K) f111.body (bS [a0,a1]) H (aM [(.tmp 4)] K):=by kernel_rfl
theorem aaH (R:aq) (lim n:Nat) (K:aa→ah→Prop):bO R lim n 9 (NG R lim n K) f111.body (aM [(.tmp 4)] K):=(aL (by kernel_rfl))
theorem aaI {ap:FuncId→Option bg} (hf:ap 111=some (.code f111)) {n lim:Nat} {K:aa→ah→Prop} {a0 a1:aa} {H:ah} (h:Gq (au.runT ap n) lim n K a0 a1 H):∃v H',au.runT ap (n+1) lim (.fn 111) [a0,a1] H=some (v,H')∧K v H':=by
 rw [aaG] at h
 exact bX hf (by kernel_rfl) (by kernel_rfl) (bw f111.body _ _ _ _ (aaH _ _ _ K) (fun _ _ _ h=>h) h)
def yp (R:aq) (lim n:Nat) (K:aa→ah→Prop) (t1 t12 t13:aa) (H:ah):Prop:=
ak (aV t13) fun mU=>
(mU=true→(ak (aB H (some 13) t1) fun cY=>
aK (R lim (.fn 160) [cY] H) fun cy j5=>
ak (gd (some (cy,true)) (aU 12 t1)) fun cW=>
ak (gd (some (cy,true)) (aB j5 none cW)) fun cz=>
ak (gd (some (cy,true)) (bh true cz)) fun v20=>
ak (gd (some (cy,true)) (av .eql v20 (.int .i64 0))) fun v21=>
ak (bH cy v21 (.bool false)) fun v22=>
K v22 j5))∧
(mU=false→(ak (av .eql t12 (.int .u8 2)) fun v23=>
ak (aV v23) fun mO=>
(mO=true→(ak (aB H (some 13) t1) fun v25=>
aK (R lim (.fn 160) [v25] H) fun v26 gQ=>
ak (gd (some (v26,true)) (aU 12 t1)) fun v28=>
ak (gd (some (v26,true)) (aB gQ none v28)) fun v29=>
ak (gd (some (v26,true)) (bh true v29)) fun v30=>
ak (gd (some (v26,true)) (av .eql v30 (.int .i64 1))) fun v31=>
ak (bH v26 v31 (.bool false)) fun v32=>
ak (gd (some (v32,true)) (aU 12 t1)) fun v33=>
ak (gd (some (v32,true)) (aB gQ none v33)) fun eX=>
ak (gd (some (v32,true)) (e7 eX (.int .i64 0))) fun v35=>
ak (gd (some (v32,true)) (av .gtr v35 (.int .u8 0))) fun v36=>
ak (bH v32 v36 (.bool false)) fun v37=>
ak (gd (some (v37,true)) (aU 12 t1)) fun eY=>
ak (gd (some (v37,true)) (aB gQ none eY)) fun eo=>
ak (gd (some (v37,true)) (e7 eo (.int .i64 0))) fun v40=>
ak (gd (some (v37,true)) (av .lss v40 (.int .u8 32))) fun v41=>
ak (bH v37 v41 (.bool false)) fun gw=>
K gw gQ))∧
(mO=false→(ak (av .eql t12 (.int .u8 3)) fun fQ=>
ak (aV fQ) fun yf=>
(yf=true→(ak (aU 3 t1) fun gN=>
ak (aB H none gN) fun v46=>
ak (av .leq v46 (.int .u8 3)) fun gx=>
K gx H))∧
(yf=false→(ak (av .eql t12 (.int .u8 4)) fun fZ=>
ak (aV fZ) fun yj=>
(yj=true→(ak (aB H (some 13) t1) fun fR=>
aK (R lim (.fn 160) [fR] H) fun v51 Bt=>
K v51 Bt))∧
(yj=false→(K (.bool false) H))))))))
def Gr (R:aq) (lim n:Nat) (K:aa→ah→Prop) (a0:aa) (H:ah):Prop:=
aK (if (a0).cells.all (·.one) then some (.ptr (some (H.next,0)),H.push (.cells (a0).cells)) else none) fun v1 H2=>
ak (aU 0 v1) fun v3=>
ak (aB H2 none v3) fun v4=>
ak (av .eql v4 (.int .u64 0)) fun v5=>
ak (gd (some (v5,false)) (aU 1 v1)) fun v6=>
ak (gd (some (v5,false)) (aB H2 none v6)) fun v7=>
ak (gd (some (v5,false)) (av .eql v7 (.int .u64 0))) fun v8=>
ak (bH v5 (.bool true) v8) fun v9=>
ak (aV v9) fun mV=>
(mV=true→(K (.bool false) H2))∧
(mV=false→(ak (aU 2 v1) fun v11=>
ak (aB H2 none v11) fun v12=>
ak (av .eql v12 (.int .u8 1)) fun cO=>
ak (aV cO) fun yq=>
(yq=true→(yp R lim n K v1 v12 cO H2))∧
(yq=false→(ak (av .eql v12 (.int .u8 5)) fun iO=>
yp R lim n K v1 v12 iO H2))))
def NH (R:aq) (lim n:Nat) (K:aa→ah→Prop):Nat→Tm→ah→Prop
 | _,_,_=>False
theorem aaJ (R:aq) (lim n:Nat) (K:aa→ah→Prop) (a0:aa) (H:ah):Gr R lim n K a0 H=aS R lim n 55 (NH R lim n K) f114.body (bS [a0]) H (aM [(.tmp 2)] K):=by kernel_rfl
theorem aaK (R:aq) (lim n:Nat) (K:aa→ah→Prop):bO R lim n 55 (NH R lim n K) f114.body (aM [(.tmp 2)] K):=(aL (by kernel_rfl))
theorem aaL {ap:FuncId→Option bg} (hf:ap 114=some (.code f114)) {n lim:Nat} {K:aa→ah→Prop} {a0:aa} {H:ah} (h:Gr (au.runT ap n) lim n K a0 H):∃v H',au.runT ap (n+1) lim (.fn 114) [a0] H=some (v,H')∧K v H':=by
 rw [aaJ] at h
 exact bX hf (by kernel_rfl) (by kernel_rfl) (bw f114.body _ _ _ _ (aaK _ _ _ K) (fun _ _ _ h=>h) h)
def NI (R:aq) (lim n:Nat) (K:aa→ah→Prop) (H:ah):Prop:=
K (.int .i64 (-1)) H
def yu (R:aq) (lim n:Nat) (K:aa→ah→Prop) (ay:aa→aa→aa→aa→ah→Prop) (t0 t1 t7 t8:aa) (H:ah):Prop:=
ak (av .lss t8 t7) fun v9=>
ak (aV v9) fun mV=>
(mV=true→(ak (cD none 1 t0 t8) fun v11=>
ak (aB H none v11) fun v12=>
ak (av .eql t1 v12) fun cO=>
ak (aV cO) fun mU=>
(mU=true→(K t8 H))∧
(mU=false→(ak (av .add t8 (.int .i64 1)) fun cY=>
ay t0 t1 t7 cY H))))∧
(mV=false→(NI R lim n K H))
def qX (R:aq) (lim n:Nat) (K:aa→ah→Prop):Nat→aa→aa→aa→aa→ah→Prop
 | 0,_,_,_,_,_=>False
 | m+1,t0,t1,t7,t8,H=>yu R lim n K (qX R lim n K m) t0 t1 t7 t8 H
def Gs (R:aq) (lim n:Nat) (K:aa→ah→Prop) (a0 a1:aa) (H:ah):Prop:=
ak (bh false a0) fun v1=>
qX R lim n K n a0 a1 v1 (.int .i64 0) H
def Bu (R:aq) (lim n:Nat) (K:aa→ah→Prop):Nat→Tm→ah→Prop
 | 0,T,H=>qX R lim n K n (T 0) (T 1) (T 7) (T 8) H
 | _,_,_=>False
def aaM (R:aq) (lim n:Nat) (K:aa→ah→Prop) (ay:aa→aa→aa→aa→ah→Prop):Nat→Tm→ah→Prop
 | _,_,_=>False
def NJ (R:aq) (lim n:Nat) (K:aa→ah→Prop) (ay:aa→aa→aa→aa→ah→Prop):Kt:=fun ex T H=>match ex with
 | .norm=>ay (T 0) (T 1) (T 7) (T 8) H
 | ex=>(bZ 0 (cE (aS R lim n 19 (Bu R lim n K) Em) (aM [(.tmp 4)] K))) ex T H
theorem aaN (R:aq) (lim n:Nat) (K:aa→ah→Prop) (ay:aa→aa→aa→aa→ah→Prop) (T:Tm) (H:ah):yu R lim n K ay (T 0) (T 1) (T 7) (T 8) H=aS R lim n 19 (aaM R lim n K ay) xm T H (NJ R lim n K ay):=by kernel_rfl
theorem NK (R:aq) (lim n:Nat) (K:aa→ah→Prop) {kw:Kt} (hk:∀ex T H,(bZ 0 (cE (aS R lim n 19 (Bu R lim n K) Em) (aM [(.tmp 4)] K))) ex T H→kw ex T H):∀(m:Nat) (T:Tm) (H:ah),qX R lim n K m (T 0) (T 1) (T 7) (T 8) H→cH (cg R lim n 19 xm) m T H kw
 | 0,_,_,h=>False.elim h
 | m+1,T,H,h=>by
  have hb:∀ex T H,NJ R lim n K (qX R lim n K m) ex T H→(fun ex T H=>match ex with | .norm=>cH (cg R lim n 19 xm) m T H kw | ex=>kw ex T H:Kt) ex T H:=by
   intro ex T H h
   cases ex with
   | norm=>exact NK R lim n K hk m T H h
   | exit i=>exact hk _ _ _ h
   | ret=>exact hk _ _ _ h
  have h':yu R lim n K (qX R lim n K m) (T 0) (T 1) (T 7) (T 8) H:=h
  rw [aaN] at h'
  exact bw xm T H _ _ (aL (by kernel_rfl)) hb h'
theorem aaO (R:aq) (lim n:Nat) (K:aa→ah→Prop) (a0 a1:aa) (H:ah):Gs R lim n K a0 a1 H=aS R lim n 19 (Bu R lim n K) f115.body (bS [a0,a1]) H (aM [(.tmp 4)] K):=by kernel_rfl
theorem aaP (R:aq) (lim n:Nat) (K:aa→ah→Prop):bO R lim n 19 (Bu R lim n K) f115.body (aM [(.tmp 4)] K):=⟨(aL (by kernel_rfl)),⟨⟨(aL (by kernel_rfl)),(fun T H h=>NK R lim n K (eV (fX (aL (by kernel_rfl)) (fun _ _ _ h=>h))) _ T H h)⟩,(aL (by kernel_rfl))⟩⟩
theorem aaQ {ap:FuncId→Option bg} (hf:ap 115=some (.code f115)) {n lim:Nat} {K:aa→ah→Prop} {a0 a1:aa} {H:ah} (h:Gs (au.runT ap n) lim n K a0 a1 H):∃v H',au.runT ap (n+1) lim (.fn 115) [a0,a1] H=some (v,H')∧K v H':=by
 rw [aaO] at h
 exact bX hf (by kernel_rfl) (by kernel_rfl) (bw f115.body _ _ _ _ (aaP _ _ _ K) (fun _ _ _ h=>h) h)
def Bv (R:aq) (lim n:Nat) (K:aa→ah→Prop) (t1 t3:aa) (H:ah):Prop:=
aK (R lim (.fn 76) [t3] H) fun v11 uN=>
ak (bF 0 v11) fun cO=>
ak (bF 1 v11) fun dw=>
ak (bp lim (uN.push (.cells cV)) 16 (.ptr (some (uN.next,0))) cO) fun ia=>
ak (fE .not dw) fun cy=>
ak (gd (some (cy,false)) (aB ia (some 16) (.ptr (some (uN.next,0))))) fun cu=>
ak (gd (some (cy,false)) (aB ia (some 16) t1)) fun cW=>
ak (gd (some (cy,false)) (dZ true (.cells [(.int .u8),(.int .u64),(.int .u8),(.int .u64),(.int .u64),(.int .u8),(.int .u8),(.int .u8),(.int .u8),(.int .u8),(.int .u8),(.int .u8),(.int .u8),(.int .u8),(.int .u8),.str]) cu cW)) fun cz=>
ak (bH cy (.bool true) cz) fun v20=>
ak (aV v20) fun NL=>
(NL=true→(K (.str []) ia))∧
(NL=false→(K t3 ia))
def Bw (R:aq) (lim n:Nat) (K:aa→ah→Prop) (t1 t3:aa) (H:ah):Prop:=
Bv R lim n K t1 t3 H
def Gt (R:aq) (lim n:Nat) (K:aa→ah→Prop) (a0:aa) (H:ah):Prop:=
aK (if (a0).cells.all (·.one) then some (.ptr (some (H.next,0)),H.push (.cells (a0).cells)) else none) fun v1 H2=>
ak (aU 0 v1) fun v3=>
ak (aB H2 none v3) fun v4=>
aK ((cU [(.int .u8 0)] [(0,1,v4)]).map fun cs=>(.sl (some (H2.next,0)) 1 (.ex 1),H2.push (.cells cs))) fun v5 H6=>
ak (e8 H6 v5) fun v7=>
ak (aU 0 v1) fun v8=>
ak (aB H6 none v8) fun v9=>
ak (av .eql v9 (.int .u8 2)) fun v10=>
ak (aV v10) fun yg=>
(yg=true→(ak (aU 1 v1) fun v23=>
ak (aB H6 none v23) fun v24=>
aK ((cU [(.int .u64 0)] [(0,1,v24)]).map fun cs=>(.sl (some (H6.next,0)) 1 (.ex 1),H6.push (.cells cs))) fun v25 NM=>
aK (R NM.next (.fn 118) [v25] NM) fun v27 gO=>
ak (aU 2 v1) fun v29=>
ak (aB gO none v29) fun v30=>
aK ((cU [(.int .u8 0)] [(0,1,v30)]).map fun cs=>(.sl (some (gO.next,0)) 1 (.ex 1),gO.push (.cells cs))) fun v31 Bo=>
ak (e8 Bo v31) fun v33=>
ak (av .add v27 v33) fun eX=>
ak (av .add v7 eX) fun v35=>
Bv R lim n K v1 v35 Bo))∧
(yg=false→(ak (av .eql v9 (.int .u8 3)) fun v36=>
ak (aV v36) fun NN=>
(NN=true→(ak (aU 3 v1) fun eY=>
ak (aB H6 (some 13) eY) fun eo=>
aK (R lim (.fn 161) [eo] H6) fun v40 iQ=>
ak (av .add v7 v40) fun gw=>
Bw R lim n K v1 gw iQ))∧
(NN=false→(Bw R lim n K v1 v7 H6))))
def NO (R:aq) (lim n:Nat) (K:aa→ah→Prop):Nat→Tm→ah→Prop
 | _,_,_=>False
theorem aaR (R:aq) (lim n:Nat) (K:aa→ah→Prop) (a0:aa) (H:ah):Gt R lim n K a0 H=aS R lim n 45 (NO R lim n K) f116.body (bS [a0]) H (aM [(.tmp 2)] K):=by kernel_rfl
theorem aaS (R:aq) (lim n:Nat) (K:aa→ah→Prop):bO R lim n 45 (NO R lim n K) f116.body (aM [(.tmp 2)] K):=(aL (by kernel_rfl))
theorem aaT {ap:FuncId→Option bg} (hf:ap 116=some (.code f116)) {n lim:Nat} {K:aa→ah→Prop} {a0:aa} {H:ah} (h:Gt (au.runT ap n) lim n K a0 H):∃v H',au.runT ap (n+1) lim (.fn 116) [a0] H=some (v,H')∧K v H':=by
 rw [aaR] at h
 exact bX hf (by kernel_rfl) (by kernel_rfl) (bw f116.body _ _ _ _ (aaS _ _ _ K) (fun _ _ _ h=>h) h)
def Gu (R:aq) (lim n:Nat) (K:aa→ah→Prop) (a0 a1:aa) (H:ah):Prop:=
ak (bh true a1) fun v1=>
ak (fo .u64 v1) fun v2=>
aK ((cU [(.int .u64 0)] [(0,1,v2)]).map fun cs=>(.sl (some (H.next,0)) 1 (.ex 1),H.push (.cells cs))) fun v3 H4=>
aK (R lim (.fn 118) [v3] H4) fun v5 H6=>
aK ((cU [(.str [])] [(0,1,a1)]).map fun cs=>(.sl (some (H6.next,0)) 1 (.ex 1),H6.push (.cells cs))) fun v7 H8=>
aK (R lim (.fn 121) [a0,v7] H8) fun v9 qQ=>
ak (fo .u64 v9) fun v11=>
aK (R lim (.fn 155) [v11,(.int .i64 4)] qQ) fun v12 gM=>
ak (av .add v5 v12) fun dw=>
ak (av .add dw a1) fun cY=>
K cY gM
def NP (R:aq) (lim n:Nat) (K:aa→ah→Prop):Nat→Tm→ah→Prop
 | _,_,_=>False
theorem aaU (R:aq) (lim n:Nat) (K:aa→ah→Prop) (a0 a1:aa) (H:ah):Gu R lim n K a0 a1 H=aS R lim n 19 (NP R lim n K) f117.body (bS [a0,a1]) H (aM [(.tmp 4)] K):=by kernel_rfl
theorem aaV (R:aq) (lim n:Nat) (K:aa→ah→Prop):bO R lim n 19 (NP R lim n K) f117.body (aM [(.tmp 4)] K):=(aL (by kernel_rfl))
theorem aaW {ap:FuncId→Option bg} (hf:ap 117=some (.code f117)) {n lim:Nat} {K:aa→ah→Prop} {a0 a1:aa} {H:ah} (h:Gu (au.runT ap n) lim n K a0 a1 H):∃v H',au.runT ap (n+1) lim (.fn 117) [a0,a1] H=some (v,H')∧K v H':=by
 rw [aaU] at h
 exact bX hf (by kernel_rfl) (by kernel_rfl) (bw f117.body _ _ _ _ (aaV _ _ _ K) (fun _ _ _ h=>h) h)
def NQ (R:aq) (lim n:Nat) (K:aa→ah→Prop) (t3:aa) (H:ah):Prop:=
ak (e8 H t3) fun eY=>
K eY H
def Gv (R:aq) (lim n:Nat) (K:aa→ah→Prop) (ay:aa→aa→aa→aa→ah→Prop) (t3 t6 t7 t8 t9 t10:aa) (H:ah):Prop:=
ak (kD 10 1 t6 (some t7) none none) fun j9=>
aK (fO lim H [(.int .u8 0)] 1 false t3 j9) fun sE H63=>
ak (av .add t10 (.int .i64 1)) fun v64=>
ay sE t8 t9 v64 H63
def yw (R:aq) (lim n:Nat) (K:aa→ah→Prop) (ay:aa→aa→aa→aa→ah→Prop) (fy:aa→aa→aa→aa→aa→aa→aa→ah→Prop) (t3 t5 t6 t7 t8 t9 t10:aa) (H:ah):Prop:=
ak (av .gtr t5 (.int .u64 0)) fun o9=>
ak (aV o9) fun NR=>
(NR=true→(ak (av .sub t7 (.int .i64 1)) fun qN=>
ak (av .and t5 (.int .u64 127)) fun sF=>
ak (fo .u8 sF) fun sG=>
ak (av .or sG (.int .u8 128)) fun v70=>
ak (cD (some 10) 1 t6 qN) fun xY=>
ak (bp lim H 1 xY v70) fun FR=>
ak (av .shr t5 (.int .u64 7)) fun Gb=>
fy t3 Gb t6 qN t8 t9 t10 FR))∧
(NR=false→(Gv R lim n K ay t3 t6 t7 t8 t9 t10 H))
def qY (R:aq) (lim n:Nat) (K:aa→ah→Prop) (ay:aa→aa→aa→aa→ah→Prop):Nat→aa→aa→aa→aa→aa→aa→aa→ah→Prop
 | 0,_,_,_,_,_,_,_,_=>False
 | m+1,t3,t5,t6,t7,t8,t9,t10,H=>yw R lim n K ay (qY R lim n K ay m) t3 t5 t6 t7 t8 t9 t10 H
def yx (R:aq) (lim n:Nat) (K:aa→ah→Prop) (ay:aa→aa→aa→aa→ah→Prop) (t3 t8 t9 t10:aa) (H:ah):Prop:=
ak (av .lss t10 t9) fun eo=>
ak (aV eo) fun qZ=>
(qZ=true→(ak (cD none 1 t8 t10) fun v41=>
ak (aB H none v41) fun gw=>
ak (av .and gw (.int .u64 127)) fun fQ=>
ak (fo .u8 fQ) fun v44=>
ak (cD (some 10) 1 (.ptr (some (H.next,0))) (.int .i64 9)) fun gN=>
ak (bp lim (H.push (.cells Ff)) 1 gN v44) fun Fy=>
ak (av .shr gw (.int .u64 7)) fun gx=>
qY R lim n K ay n t3 gx (.ptr (some (H.next,0))) (.int .i64 9) t8 t9 t10 Fy))∧
(qZ=false→(NQ R lim n K t3 H))
def pz (R:aq) (lim n:Nat) (K:aa→ah→Prop):Nat→aa→aa→aa→aa→ah→Prop
 | 0,_,_,_,_,_=>False
 | m+1,t3,t8,t9,t10,H=>yx R lim n K (pz R lim n K m) t3 t8 t9 t10 H
def Gw (R:aq) (lim n:Nat) (K:aa→ah→Prop) (a0:aa) (H:ah):Prop:=
ak (bh false a0) fun v1=>
pz R lim n K n (.sl none 0 (.ex 0)) a0 v1 (.int .i64 0) H
def Bx (R:aq) (lim n:Nat) (K:aa→ah→Prop):Nat→Tm→ah→Prop
 | 0,T,H=>pz R lim n K n (T 3) (T 8) (T 9) (T 10) H
 | _,_,_=>False
def yy (R:aq) (lim n:Nat) (K:aa→ah→Prop) (ay:aa→aa→aa→aa→ah→Prop):Nat→Tm→ah→Prop
 | 2,T,H=>qY R lim n K ay n (T 3) (T 5) (T 6) (T 7) (T 8) (T 9) (T 10) H
 | _,_,_=>False
def aaX (R:aq) (lim n:Nat) (K:aa→ah→Prop) (ay:aa→aa→aa→aa→ah→Prop) (fy:aa→aa→aa→aa→aa→aa→aa→ah→Prop):Nat→Tm→ah→Prop
 | _,_,_=>False
def By (R:aq) (lim n:Nat) (K:aa→ah→Prop) (ay:aa→aa→aa→aa→ah→Prop):Kt:=fun ex T H=>match ex with
 | .norm=>ay (T 3) (T 8) (T 9) (T 10) H
 | ex=>(bZ 0 (cE (aS R lim n 40 (Bx R lim n K) Eo) (aM [(.tmp 2)] K))) ex T H
def NS (R:aq) (lim n:Nat) (K:aa→ah→Prop) (ay:aa→aa→aa→aa→ah→Prop) (fy:aa→aa→aa→aa→aa→aa→aa→ah→Prop):Kt:=fun ex T H=>match ex with
 | .norm=>fy (T 3) (T 5) (T 6) (T 7) (T 8) (T 9) (T 10) H
 | ex=>(bZ 2 (cE (aS R lim n 40 (yy R lim n K ay) Ep) (bZ 1 (cE (aS R lim n 40 (yy R lim n K ay) En) (By R lim n K ay))))) ex T H
theorem aaY (R:aq) (lim n:Nat) (K:aa→ah→Prop) (ay:aa→aa→aa→aa→ah→Prop) (fy:aa→aa→aa→aa→aa→aa→aa→ah→Prop) (T:Tm) (H:ah):yw R lim n K ay fy (T 3) (T 5) (T 6) (T 7) (T 8) (T 9) (T 10) H=aS R lim n 40 (aaX R lim n K ay fy) xp T H (NS R lim n K ay fy):=by kernel_rfl
theorem NT (R:aq) (lim n:Nat) (K:aa→ah→Prop) (ay:aa→aa→aa→aa→ah→Prop) {kw:Kt} (hk:∀ex T H,(bZ 2 (cE (aS R lim n 40 (yy R lim n K ay) Ep) (bZ 1 (cE (aS R lim n 40 (yy R lim n K ay) En) (By R lim n K ay))))) ex T H→kw ex T H):∀(m:Nat) (T:Tm) (H:ah),qY R lim n K ay m (T 3) (T 5) (T 6) (T 7) (T 8) (T 9) (T 10) H→cH (cg R lim n 40 xp) m T H kw
 | 0,_,_,h=>False.elim h
 | m+1,T,H,h=>by
  have hb:∀ex T H,NS R lim n K ay (qY R lim n K ay m) ex T H→(fun ex T H=>match ex with | .norm=>cH (cg R lim n 40 xp) m T H kw | ex=>kw ex T H:Kt) ex T H:=by
   intro ex T H h
   cases ex with
   | norm=>exact NT R lim n K ay hk m T H h
   | exit i=>exact hk _ _ _ h
   | ret=>exact hk _ _ _ h
  have h':yw R lim n K ay (qY R lim n K ay m) (T 3) (T 5) (T 6) (T 7) (T 8) (T 9) (T 10) H:=h
  rw [aaY] at h'
  exact bw xp T H _ _ (aL (by kernel_rfl)) hb h'
theorem aaZ (R:aq) (lim n:Nat) (K:aa→ah→Prop) (ay:aa→aa→aa→aa→ah→Prop) (T:Tm) (H:ah):yx R lim n K ay (T 3) (T 8) (T 9) (T 10) H=aS R lim n 40 (yy R lim n K ay) xq T H (By R lim n K ay):=by kernel_rfl
theorem NU (R:aq) (lim n:Nat) (K:aa→ah→Prop) {kw:Kt} (hk:∀ex T H,(bZ 0 (cE (aS R lim n 40 (Bx R lim n K) Eo) (aM [(.tmp 2)] K))) ex T H→kw ex T H):∀(m:Nat) (T:Tm) (H:ah),pz R lim n K m (T 3) (T 8) (T 9) (T 10) H→cH (cg R lim n 40 xq) m T H kw
 | 0,_,_,h=>False.elim h
 | m+1,T,H,h=>by
  have hb:∀ex T H,By R lim n K (pz R lim n K m) ex T H→(fun ex T H=>match ex with | .norm=>cH (cg R lim n 40 xq) m T H kw | ex=>kw ex T H:Kt) ex T H:=by
   intro ex T H h
   cases ex with
   | norm=>exact NU R lim n K hk m T H h
   | exit i=>exact hk _ _ _ h
   | ret=>exact hk _ _ _ h
  have h':yx R lim n K (pz R lim n K m) (T 3) (T 8) (T 9) (T 10) H:=h
  rw [aaZ] at h'
  exact bw xq T H _ _ ⟨(aL (by kernel_rfl)),⟨(aL (by kernel_rfl)),⟨⟨(aL (by kernel_rfl)),⟨(aL (by kernel_rfl)),⟨(aL (by kernel_rfl)),⟨(aL (by kernel_rfl)),⟨⟨(aL (by kernel_rfl)),(fun T H h=>NT R lim n K (pz R lim n K m) (eV (fX (aL (by kernel_rfl)) (eV (fX (aL (by kernel_rfl)) (hb))))) _ T H h)⟩,(aL (by kernel_rfl))⟩⟩⟩⟩⟩,(aL (by kernel_rfl))⟩⟩⟩ hb h'
theorem aa0 (R:aq) (lim n:Nat) (K:aa→ah→Prop) (a0:aa) (H:ah):Gw R lim n K a0 H=aS R lim n 40 (Bx R lim n K) f118.body (bS [a0]) H (aM [(.tmp 2)] K):=by kernel_rfl
theorem aa1 (R:aq) (lim n:Nat) (K:aa→ah→Prop):bO R lim n 40 (Bx R lim n K) f118.body (aM [(.tmp 2)] K):=⟨(aL (by kernel_rfl)),⟨(aL (by kernel_rfl)),⟨⟨(aL (by kernel_rfl)),(fun T H h=>NU R lim n K (eV (fX (aL (by kernel_rfl)) (fun _ _ _ h=>h))) _ T H h)⟩,(aL (by kernel_rfl))⟩⟩⟩
theorem aa2 {ap:FuncId→Option bg} (hf:ap 118=some (.code f118)) {n lim:Nat} {K:aa→ah→Prop} {a0:aa} {H:ah} (h:Gw (au.runT ap n) lim n K a0 H):∃v H',au.runT ap (n+1) lim (.fn 118) [a0] H=some (v,H')∧K v H':=by
 rw [aa0] at h
 exact bX hf (by kernel_rfl) (by kernel_rfl) (bw f118.body _ _ _ _ (aa1 _ _ _ K) (fun _ _ _ h=>h) h)
def sK (R:aq) (lim n:Nat) (K:aa→ah→Prop) (H:ah):Prop:=
K (.bq [(.int .u64 0),(.int .i64 0),(.bool false)]) H
def yz (R:aq) (lim n:Nat) (K:aa→ah→Prop) (ay:aa→aa→aa→ah→Prop) (t0 t2 t3:aa) (H:ah):Prop:=
ak (bh true t0) fun v25=>
ak (av .lss t3 v25) fun v26=>
ak (gd (some (v26,true)) (some t3)) fun v27=>
ak (gd (some (v26,true)) (av .lss v27 (.int .i64 10))) fun v28=>
ak (bH v26 v28 (.bool false)) fun v29=>
ak (aV v29) fun yA=>
(yA=true→(ak (e7 t0 t3) fun v31=>
ak (av .eql t3 (.int .i64 0)) fun v32=>
ak (gd (some (v32,true)) (some v31)) fun v33=>
ak (gd (some (v32,true)) (av .eql v33 (.int .u8 128))) fun eX=>
ak (bH v32 eX (.bool false)) fun v35=>
ak (gd (some (v35,false)) (some t2)) fun v36=>
ak (gd (some (v35,false)) (av .shr v36 (.int .u64 57))) fun v37=>
ak (gd (some (v35,false)) (av .gtr v37 (.int .u64 0))) fun eY=>
ak (bH v35 (.bool true) eY) fun eo=>
ak (aV eo) fun qZ=>
(qZ=true→(sK R lim n K H))∧
(qZ=false→(ak (av .shl t2 (.int .u64 7)) fun v41=>
ak (av .and v31 (.int .u8 127)) fun gw=>
ak (fo .u64 gw) fun fQ=>
ak (av .or v41 fQ) fun v44=>
ak (av .add t3 (.int .i64 1)) fun gN=>
ak (av .and v31 (.int .u8 128)) fun v46=>
ak (av .eql v46 (.int .u8 0)) fun gx=>
ak (aV gx) fun NV=>
(NV=true→(K (.bq [v44,gN,(.bool true)]) H))∧
(NV=false→(ay t0 v44 gN H))))))∧
(yA=false→(sK R lim n K H))
def pE (R:aq) (lim n:Nat) (K:aa→ah→Prop):Nat→aa→aa→aa→ah→Prop
 | 0,_,_,_,_=>False
 | m+1,t0,t2,t3,H=>yz R lim n K (pE R lim n K m) t0 t2 t3 H
def Gx (R:aq) (lim n:Nat) (K:aa→ah→Prop) (a0:aa) (H:ah):Prop:=
pE R lim n K n a0 (.int .u64 0) (.int .i64 0) H
def Bz (R:aq) (lim n:Nat) (K:aa→ah→Prop):Nat→Tm→ah→Prop
 | 0,T,H=>pE R lim n K n (T 0) (T 2) (T 3) H
 | _,_,_=>False
def aa3 (R:aq) (lim n:Nat) (K:aa→ah→Prop) (ay:aa→aa→aa→ah→Prop):Nat→Tm→ah→Prop
 | _,_,_=>False
def NW (R:aq) (lim n:Nat) (K:aa→ah→Prop) (ay:aa→aa→aa→ah→Prop):Kt:=fun ex T H=>match ex with
 | .norm=>ay (T 0) (T 2) (T 3) H
 | ex=>(bZ 0 (cE (aS R lim n 41 (Bz R lim n K) Er) (aM [(.tmp 2),(.tmp 3),(.tmp 4)] K))) ex T H
theorem aa4 (R:aq) (lim n:Nat) (K:aa→ah→Prop) (ay:aa→aa→aa→ah→Prop) (T:Tm) (H:ah):yz R lim n K ay (T 0) (T 2) (T 3) H=aS R lim n 41 (aa3 R lim n K ay) xu T H (NW R lim n K ay):=by kernel_rfl
theorem NX (R:aq) (lim n:Nat) (K:aa→ah→Prop) {kw:Kt} (hk:∀ex T H,(bZ 0 (cE (aS R lim n 41 (Bz R lim n K) Er) (aM [(.tmp 2),(.tmp 3),(.tmp 4)] K))) ex T H→kw ex T H):∀(m:Nat) (T:Tm) (H:ah),pE R lim n K m (T 0) (T 2) (T 3) H→cH (cg R lim n 41 xu) m T H kw
 | 0,_,_,h=>False.elim h
 | m+1,T,H,h=>by
  have hb:∀ex T H,NW R lim n K (pE R lim n K m) ex T H→(fun ex T H=>match ex with | .norm=>cH (cg R lim n 41 xu) m T H kw | ex=>kw ex T H:Kt) ex T H:=by
   intro ex T H h
   cases ex with
   | norm=>exact NX R lim n K hk m T H h
   | exit i=>exact hk _ _ _ h
   | ret=>exact hk _ _ _ h
  have h':yz R lim n K (pE R lim n K m) (T 0) (T 2) (T 3) H:=h
  rw [aa4] at h'
  exact bw xu T H _ _ (aL (by kernel_rfl)) hb h'
theorem aa5 (R:aq) (lim n:Nat) (K:aa→ah→Prop) (a0:aa) (H:ah):Gx R lim n K a0 H=aS R lim n 41 (Bz R lim n K) f119.body (bS [a0]) H (aM [(.tmp 2),(.tmp 3),(.tmp 4)] K):=by kernel_rfl
theorem aa6 (R:aq) (lim n:Nat) (K:aa→ah→Prop):bO R lim n 41 (Bz R lim n K) f119.body (aM [(.tmp 2),(.tmp 3),(.tmp 4)] K):=⟨(aL (by kernel_rfl)),⟨(fun T H h=>NX R lim n K (eV (fX (aL (by kernel_rfl)) (fun _ _ _ h=>h))) _ T H h),(aL (by kernel_rfl))⟩⟩
theorem aa7 {ap:FuncId→Option bg} (hf:ap 119=some (.code f119)) {n lim:Nat} {K:aa→ah→Prop} {a0:aa} {H:ah} (h:Gx (au.runT ap n) lim n K a0 H):∃v H',au.runT ap (n+1) lim (.fn 119) [a0] H=some (v,H')∧K v H':=by
 rw [aa5] at h
 exact bX hf (by kernel_rfl) (by kernel_rfl) (bw f119.body _ _ _ _ (aa6 _ _ _ K) (fun _ _ _ h=>h) h)
def NY (R:aq) (lim n:Nat) (K:aa→ah→Prop) (t4:aa) (H:ah):Prop:=
K (.bq [t4,(.bool true)]) H
def sL (R:aq) (lim n:Nat) (K:aa→ah→Prop) (ay:aa→aa→aa→aa→ah→Prop) (t0 t4 t19 t20:aa) (H:ah):Prop:=
ak (av .lss t20 t19) fun cW=>
ak (aV cW) fun qT=>
(qT=true→(ak (av .shl t4 (.int .u64 8)) fun v20=>
ak (e7 t0 t20) fun v21=>
ak (fo .u64 v21) fun v22=>
ak (av .or v20 v22) fun v23=>
ak (av .add t20 (.int .i64 1)) fun v24=>
ay t0 v23 t19 v24 H))∧
(qT=false→(NY R lim n K t4 H))
def pF (R:aq) (lim n:Nat) (K:aa→ah→Prop):Nat→aa→aa→aa→aa→ah→Prop
 | 0,_,_,_,_,_=>False
 | m+1,t0,t4,t19,t20,H=>sL R lim n K (pF R lim n K m) t0 t4 t19 t20 H
def Gy (R:aq) (lim n:Nat) (K:aa→ah→Prop) (a0 a1:aa) (H:ah):Prop:=
ak (av .lss a1 (.int .i64 1)) fun v1=>
ak (gd (some (v1,false)) (some a1)) fun v2=>
ak (gd (some (v1,false)) (av .gtr v2 (.int .i64 8))) fun v3=>
ak (bH v1 (.bool true) v3) fun v4=>
ak (gd (some (v4,false)) (some a0)) fun v5=>
ak (gd (some (v4,false)) (bh true v5)) fun v6=>
ak (gd (some (v4,false)) (some a1)) fun v7=>
ak (gd (some (v4,false)) (av .lss v6 v7)) fun v8=>
ak (bH v4 (.bool true) v8) fun v9=>
ak (aV v9) fun mV=>
(mV=true→(K (.bq [(.int .u64 0),(.bool false)]) H))∧
(mV=false→(pF R lim n K n a0 (.int .u64 0) a1 (.int .i64 0) H))
def BA (R:aq) (lim n:Nat) (K:aa→ah→Prop):Nat→Tm→ah→Prop
 | 0,T,H=>pF R lim n K n (T 0) (T 4) (T 19) (T 20) H
 | _,_,_=>False
def aa8 (R:aq) (lim n:Nat) (K:aa→ah→Prop) (ay:aa→aa→aa→aa→ah→Prop):Nat→Tm→ah→Prop
 | _,_,_=>False
def NZ (R:aq) (lim n:Nat) (K:aa→ah→Prop) (ay:aa→aa→aa→aa→ah→Prop):Kt:=fun ex T H=>match ex with
 | .norm=>ay (T 0) (T 4) (T 19) (T 20) H
 | ex=>(bZ 0 (cE (aS R lim n 32 (BA R lim n K) Es) (aM [(.tmp 4),(.tmp 5)] K))) ex T H
theorem aa9 (R:aq) (lim n:Nat) (K:aa→ah→Prop) (ay:aa→aa→aa→aa→ah→Prop) (T:Tm) (H:ah):sL R lim n K ay (T 0) (T 4) (T 19) (T 20) H=aS R lim n 32 (aa8 R lim n K ay) xw T H (NZ R lim n K ay):=by kernel_rfl
theorem N0 (R:aq) (lim n:Nat) (K:aa→ah→Prop) {kw:Kt} (hk:∀ex T H,(bZ 0 (cE (aS R lim n 32 (BA R lim n K) Es) (aM [(.tmp 4),(.tmp 5)] K))) ex T H→kw ex T H):∀(m:Nat) (T:Tm) (H:ah),pF R lim n K m (T 0) (T 4) (T 19) (T 20) H→cH (cg R lim n 32 xw) m T H kw
 | 0,_,_,h=>False.elim h
 | m+1,T,H,h=>by
  have hb:∀ex T H,NZ R lim n K (pF R lim n K m) ex T H→(fun ex T H=>match ex with | .norm=>cH (cg R lim n 32 xw) m T H kw | ex=>kw ex T H:Kt) ex T H:=by
   intro ex T H h
   cases ex with
   | norm=>exact N0 R lim n K hk m T H h
   | exit i=>exact hk _ _ _ h
   | ret=>exact hk _ _ _ h
  have h':sL R lim n K (pF R lim n K m) (T 0) (T 4) (T 19) (T 20) H:=h
  rw [aa9] at h'
  exact bw xw T H _ _ (aL (by kernel_rfl)) hb h'
theorem aba (R:aq) (lim n:Nat) (K:aa→ah→Prop) (a0 a1:aa) (H:ah):Gy R lim n K a0 a1 H=aS R lim n 32 (BA R lim n K) f120.body (bS [a0,a1]) H (aM [(.tmp 4),(.tmp 5)] K):=by kernel_rfl
theorem abb (R:aq) (lim n:Nat) (K:aa→ah→Prop):bO R lim n 32 (BA R lim n K) f120.body (aM [(.tmp 4),(.tmp 5)] K):=⟨(aL (by kernel_rfl)),⟨(aL (by kernel_rfl)),⟨⟨(aL (by kernel_rfl)),(fun T H h=>N0 R lim n K (eV (fX (aL (by kernel_rfl)) (fun _ _ _ h=>h))) _ T H h)⟩,(aL (by kernel_rfl))⟩⟩⟩
theorem abc {ap:FuncId→Option bg} (hf:ap 120=some (.code f120)) {n lim:Nat} {K:aa→ah→Prop} {a0 a1:aa} {H:ah} (h:Gy (au.runT ap n) lim n K a0 a1 H):∃v H',au.runT ap (n+1) lim (.fn 120) [a0,a1] H=some (v,H')∧K v H':=by
 rw [aba] at h
 exact bX hf (by kernel_rfl) (by kernel_rfl) (bw f120.body _ _ _ _ (abb _ _ _ K) (fun _ _ _ h=>h) h)
def N1 (R:aq) (lim n:Nat) (K:aa→ah→Prop) (t5:aa) (H:ah):Prop:=
ak (fE .xor t5) fun eX=>
K eX H
def N2 (R:aq) (lim n:Nat) (K:aa→ah→Prop) (ay:aa→aa→aa→aa→aa→ah→Prop) (t0 t5 t11 t12 t13:aa) (H:ah):Prop:=
ak (av .add t13 (.int .i64 1)) fun gy=>
ay t0 t5 t11 t12 gy H
def sM (R:aq) (lim n:Nat) (K:aa→ah→Prop) (ay:aa→aa→aa→aa→aa→ah→Prop) (fy:aa→aa→aa→aa→aa→aa→aa→aa→ah→Prop) (t0 t5 t7 t11 t12 t13 t18 t19:aa) (H:ah):Prop:=
ak (av .lss t19 t18) fun v53=>
ak (aV v53) fun yB=>
(yB=true→(ak (av .shr t5 (.int .u64 8)) fun mM=>
ak (fo .u8 t5) fun jg=>
ak (e7 t7 t19) fun v57=>
ak (av .xor jg v57) fun j8=>
ak (dI t0) fun v59=>
ak (cD (some 256) 1 v59 j8) fun jL=>
ak (aB H none jL) fun j9=>
ak (av .xor mM j9) fun sE=>
ak (av .add t19 (.int .i64 1)) fun v63=>
fy t0 sE t7 t11 t12 t13 t18 v63 H))∧
(yB=false→(N2 R lim n K ay t0 t5 t11 t12 t13 H))
def pG (R:aq) (lim n:Nat) (K:aa→ah→Prop) (ay:aa→aa→aa→aa→aa→ah→Prop):Nat→aa→aa→aa→aa→aa→aa→aa→aa→ah→Prop
 | 0,_,_,_,_,_,_,_,_,_=>False
 | m+1,t0,t5,t7,t11,t12,t13,t18,t19,H=>sM R lim n K ay (pG R lim n K ay m) t0 t5 t7 t11 t12 t13 t18 t19 H
def sN (R:aq) (lim n:Nat) (K:aa→ah→Prop) (ay:aa→aa→aa→aa→aa→ah→Prop) (t0 t5 t11 t12 t13:aa) (H:ah):Prop:=
ak (av .lss t13 t12) fun v35=>
ak (aV v35) fun N3=>
(N3=true→(ak (cD none 1 t11 t13) fun v37=>
ak (aB H none v37) fun eY=>
ak (bh true eY) fun eo=>
pG R lim n K ay n t0 t5 eY t11 t12 t13 eo (.int .i64 0) H))∧
(N3=false→(N1 R lim n K t5 H))
def pH (R:aq) (lim n:Nat) (K:aa→ah→Prop):Nat→aa→aa→aa→aa→aa→ah→Prop
 | 0,_,_,_,_,_,_=>False
 | m+1,t0,t5,t11,t12,t13,H=>sN R lim n K (pH R lim n K m) t0 t5 t11 t12 t13 H
def Gz (R:aq) (lim n:Nat) (K:aa→ah→Prop) (a0 a1:aa) (H:ah):Prop:=
ak (dZ false .ptr a0 (.ptr none)) fun v1=>
ak (aV v1) fun b2=>
(b2=true→(K (.int .u32 0) H))∧
(b2=false→(ak (bh false a1) fun v3=>
pH R lim n K n a0 (.int .u32 4294967295) a1 v3 (.int .i64 0) H))
def BB (R:aq) (lim n:Nat) (K:aa→ah→Prop):Nat→Tm→ah→Prop
 | 0,T,H=>pH R lim n K n (T 0) (T 5) (T 11) (T 12) (T 13) H
 | _,_,_=>False
def GA (R:aq) (lim n:Nat) (K:aa→ah→Prop) (ay:aa→aa→aa→aa→aa→ah→Prop):Nat→Tm→ah→Prop
 | 2,T,H=>pG R lim n K ay n (T 0) (T 5) (T 7) (T 11) (T 12) (T 13) (T 18) (T 19) H
 | _,_,_=>False
def abd (R:aq) (lim n:Nat) (K:aa→ah→Prop) (ay:aa→aa→aa→aa→aa→ah→Prop) (fy:aa→aa→aa→aa→aa→aa→aa→aa→ah→Prop):Nat→Tm→ah→Prop
 | _,_,_=>False
def BC (R:aq) (lim n:Nat) (K:aa→ah→Prop) (ay:aa→aa→aa→aa→aa→ah→Prop):Kt:=fun ex T H=>match ex with
 | .norm=>ay (T 0) (T 5) (T 11) (T 12) (T 13) H
 | ex=>(bZ 0 (cE (aS R lim n 39 (BB R lim n K) Eu) (aM [(.tmp 4)] K))) ex T H
def N4 (R:aq) (lim n:Nat) (K:aa→ah→Prop) (ay:aa→aa→aa→aa→aa→ah→Prop) (fy:aa→aa→aa→aa→aa→aa→aa→aa→ah→Prop):Kt:=fun ex T H=>match ex with
 | .norm=>fy (T 0) (T 5) (T 7) (T 11) (T 12) (T 13) (T 18) (T 19) H
 | ex=>(bZ 2 (bZ 1 (cE (aS R lim n 39 (GA R lim n K ay) Et) (BC R lim n K ay)))) ex T H
theorem abe (R:aq) (lim n:Nat) (K:aa→ah→Prop) (ay:aa→aa→aa→aa→aa→ah→Prop) (fy:aa→aa→aa→aa→aa→aa→aa→aa→ah→Prop) (T:Tm) (H:ah):sM R lim n K ay fy (T 0) (T 5) (T 7) (T 11) (T 12) (T 13) (T 18) (T 19) H=aS R lim n 39 (abd R lim n K ay fy) xx T H (N4 R lim n K ay fy):=by kernel_rfl
theorem N5 (R:aq) (lim n:Nat) (K:aa→ah→Prop) (ay:aa→aa→aa→aa→aa→ah→Prop) {kw:Kt} (hk:∀ex T H,(bZ 2 (bZ 1 (cE (aS R lim n 39 (GA R lim n K ay) Et) (BC R lim n K ay)))) ex T H→kw ex T H):∀(m:Nat) (T:Tm) (H:ah),pG R lim n K ay m (T 0) (T 5) (T 7) (T 11) (T 12) (T 13) (T 18) (T 19) H→cH (cg R lim n 39 xx) m T H kw
 | 0,_,_,h=>False.elim h
 | m+1,T,H,h=>by
  have hb:∀ex T H,N4 R lim n K ay (pG R lim n K ay m) ex T H→(fun ex T H=>match ex with | .norm=>cH (cg R lim n 39 xx) m T H kw | ex=>kw ex T H:Kt) ex T H:=by
   intro ex T H h
   cases ex with
   | norm=>exact N5 R lim n K ay hk m T H h
   | exit i=>exact hk _ _ _ h
   | ret=>exact hk _ _ _ h
  have h':sM R lim n K ay (pG R lim n K ay m) (T 0) (T 5) (T 7) (T 11) (T 12) (T 13) (T 18) (T 19) H:=h
  rw [abe] at h'
  exact bw xx T H _ _ (aL (by kernel_rfl)) hb h'
theorem abf (R:aq) (lim n:Nat) (K:aa→ah→Prop) (ay:aa→aa→aa→aa→aa→ah→Prop) (T:Tm) (H:ah):sN R lim n K ay (T 0) (T 5) (T 11) (T 12) (T 13) H=aS R lim n 39 (GA R lim n K ay) xy T H (BC R lim n K ay):=by kernel_rfl
theorem N6 (R:aq) (lim n:Nat) (K:aa→ah→Prop) {kw:Kt} (hk:∀ex T H,(bZ 0 (cE (aS R lim n 39 (BB R lim n K) Eu) (aM [(.tmp 4)] K))) ex T H→kw ex T H):∀(m:Nat) (T:Tm) (H:ah),pH R lim n K m (T 0) (T 5) (T 11) (T 12) (T 13) H→cH (cg R lim n 39 xy) m T H kw
 | 0,_,_,h=>False.elim h
 | m+1,T,H,h=>by
  have hb:∀ex T H,BC R lim n K (pH R lim n K m) ex T H→(fun ex T H=>match ex with | .norm=>cH (cg R lim n 39 xy) m T H kw | ex=>kw ex T H:Kt) ex T H:=by
   intro ex T H h
   cases ex with
   | norm=>exact N6 R lim n K hk m T H h
   | exit i=>exact hk _ _ _ h
   | ret=>exact hk _ _ _ h
  have h':sN R lim n K (pH R lim n K m) (T 0) (T 5) (T 11) (T 12) (T 13) H:=h
  rw [abf] at h'
  exact bw xy T H _ _ ⟨(aL (by kernel_rfl)),⟨(aL (by kernel_rfl)),⟨⟨(aL (by kernel_rfl)),⟨(aL (by kernel_rfl)),(fun T H h=>N5 R lim n K (pH R lim n K m) (eV (eV (fX (aL (by kernel_rfl)) (hb)))) _ T H h)⟩⟩,(aL (by kernel_rfl))⟩⟩⟩ hb h'
theorem abg (R:aq) (lim n:Nat) (K:aa→ah→Prop) (a0 a1:aa) (H:ah):Gz R lim n K a0 a1 H=aS R lim n 39 (BB R lim n K) f121.body (bS [a0,a1]) H (aM [(.tmp 4)] K):=by kernel_rfl
theorem abh (R:aq) (lim n:Nat) (K:aa→ah→Prop):bO R lim n 39 (BB R lim n K) f121.body (aM [(.tmp 4)] K):=⟨(aL (by kernel_rfl)),⟨(aL (by kernel_rfl)),⟨(aL (by kernel_rfl)),⟨⟨(aL (by kernel_rfl)),(fun T H h=>N6 R lim n K (eV (fX (aL (by kernel_rfl)) (fun _ _ _ h=>h))) _ T H h)⟩,(aL (by kernel_rfl))⟩⟩⟩⟩
theorem abi {ap:FuncId→Option bg} (hf:ap 121=some (.code f121)) {n lim:Nat} {K:aa→ah→Prop} {a0 a1:aa} {H:ah} (h:Gz (au.runT ap n) lim n K a0 a1 H):∃v H',au.runT ap (n+1) lim (.fn 121) [a0,a1] H=some (v,H')∧K v H':=by
 rw [abg] at h
 exact bX hf (by kernel_rfl) (by kernel_rfl) (bw f121.body _ _ _ _ (abh _ _ _ K) (fun _ _ _ h=>h) h)
def BD (R:aq) (lim n:Nat) (K:aa→ah→Prop) (t0 t2 t4 t11:aa) (H:ah):Prop:=
aK (R lim (.fn 162) [t11] H) fun v36 H37=>
ak (bF 0 v36) fun eY=>
ak (bF 1 v36) fun eo=>
ak (bF 2 v36) fun v40=>
ak (aU 12 t4) fun v41=>
ak (bp lim H37 1 v41 eY) fun yd=>
ak (aB yd (some 13) t4) fun fQ=>
aK (R lim (.fn 161) [fQ] yd) fun v44 GB=>
ak (av .neq v44 t0) fun v46=>
ak (aV v46) fun xU=>
(xU=true→(ak (fW eW []) fun fZ=>
ak (bp lim GB 13 t2 fZ) fun N7=>
ak (aB N7 (some 13) t2) fun fR=>
K (.bq [fR,(.bool false)]) N7))∧
(xU=false→(ak (aB GB (some 13) t4) fun v51=>
ak (bp lim GB 13 t2 v51) fun Bt=>
ak (aB Bt (some 13) t2) fun v53=>
K (.bq [v53,(.bool true)]) Bt))
def GC (R:aq) (lim n:Nat) (K:aa→ah→Prop) (a0:aa) (H:ah):Prop:=
ak (av .eql a0 (.str [])) fun v1=>
ak (aV v1) fun b2=>
(b2=true→(ak (fW eW []) fun v3=>
ak (bp lim (H.push (.cells eW)) 13 (.ptr (some (H.next,0))) v3) fun H4=>
ak (aB H4 (some 13) (.ptr (some (H.next,0)))) fun v5=>
K (.bq [v5,(.bool false)]) H4))∧
(b2=false→(ak (e7 a0 (.int .i64 0)) fun v6=>
ak (fW eW [(2,1,v6)]) fun v7=>
ak (bp lim ((H.push (.cells eW)).push (.cells eW)) 13 (.ptr (some ((H.push (.cells eW)).next,0))) v7) fun H8=>
ak (dS a0 (some (.int .i64 1)) none) fun v9=>
aK (R lim (.fn 119) [v9] H8) fun v10 dV=>
ak (bF 0 v10) fun v12=>
ak (bF 1 v10) fun cO=>
ak (bF 2 v10) fun dw=>
ak (av .add (.int .i64 1) cO) fun cY=>
ak (dS a0 (some cY) none) fun cy=>
aK (R lim (.fn 119) [cy] dV) fun cu mL=>
ak (bF 0 cu) fun cz=>
ak (bF 1 cu) fun v20=>
ak (bF 2 cu) fun v21=>
ak (aU 0 (.ptr (some ((H.push (.cells eW)).next,0)))) fun v22=>
ak (bp lim mL 1 v22 v12) fun gP=>
ak (aU 1 (.ptr (some ((H.push (.cells eW)).next,0)))) fun v24=>
ak (bp lim gP 1 v24 cz) fun pg=>
ak (av .add (.int .i64 1) cO) fun v26=>
ak (av .add v26 v20) fun v27=>
ak (dS a0 (some v27) none) fun v28=>
ak (aU 2 (.ptr (some ((H.push (.cells eW)).next,0)))) fun v29=>
ak (aB pg none v29) fun v30=>
ak (av .eql v30 (.int .u8 3)) fun v31=>
ak (gd (some (v31,true)) (some v28)) fun v32=>
ak (gd (some (v31,true)) (bh true v32)) fun v33=>
ak (gd (some (v31,true)) (av .gtr v33 (.int .i64 8))) fun eX=>
ak (bH v31 eX (.bool false)) fun v35=>
ak (aV v35) fun yB=>
(yB=true→(ak (e7 v28 (.int .i64 0)) fun mM=>
ak (aU 3 (.ptr (some ((H.push (.cells eW)).next,0)))) fun jg=>
ak (bp lim pg 1 jg mM) fun Bp=>
ak (aU 4 (.ptr (some ((H.push (.cells eW)).next,0)))) fun j8=>
ak (kD 8 1 j8 none none none) fun v59=>
ak (dS v28 (some (.int .i64 1)) none) fun jL=>
aK (nW lim Bp 1 v59 jL) fun j9 jA=>
ak (av .add (.int .i64 1) j9) fun v63=>
ak (dS v28 (some v63) none) fun v64=>
BD R lim n K a0 (.ptr (some (H.next,0))) (.ptr (some ((H.push (.cells eW)).next,0))) v64 jA))∧
(yB=false→(BD R lim n K a0 (.ptr (some (H.next,0))) (.ptr (some ((H.push (.cells eW)).next,0))) v28 pg))))
def N8 (R:aq) (lim n:Nat) (K:aa→ah→Prop):Nat→Tm→ah→Prop
 | _,_,_=>False
theorem abj (R:aq) (lim n:Nat) (K:aa→ah→Prop) (a0:aa) (H:ah):GC R lim n K a0 H=aS R lim n 76 (N8 R lim n K) f122.body (bS [a0]) H (aM [(.cell 2 (some 13)),(.tmp 3)] K):=by kernel_rfl
theorem abk (R:aq) (lim n:Nat) (K:aa→ah→Prop):bO R lim n 76 (N8 R lim n K) f122.body (aM [(.cell 2 (some 13)),(.tmp 3)] K):=(aL (by kernel_rfl))
theorem abl {ap:FuncId→Option bg} (hf:ap 122=some (.code f122)) {n lim:Nat} {K:aa→ah→Prop} {a0:aa} {H:ah} (h:GC (au.runT ap n) lim n K a0 H):∃v H',au.runT ap (n+1) lim (.fn 122) [a0] H=some (v,H')∧K v H':=by
 rw [abj] at h
 exact bX hf (by kernel_rfl) (by kernel_rfl) (bw f122.body _ _ _ _ (abk _ _ _ K) (fun _ _ _ h=>h) h)
def GD (R:aq) (lim n:Nat) (K:aa→ah→Prop) (a0 a1:aa) (H:ah):Prop:=
ak (av .eql a1 (.int .i64 10)) fun v1=>
ak (aV v1) fun b2=>
(b2=true→(ak (av .lss a0 (.int .u64 100)) fun v3=>
ak (aV v3) fun b4=>
(b4=true→(ak (fo .i64 a0) fun v5=>
aK (R lim (.fn 170) [v5] H) fun v6 H7=>
K v6 H7))∧
(b4=false→(aK (R lim (.fn 171) [a0] (H.push (.cells XF))) fun v8 H9=>
ak (kD 24 1 (.ptr (some (H.next,0))) none (some v8) none) fun v10=>
aK (R lim (.fn 172) [v10,a0] H9) fun v11 uN=>
ak (kD 24 1 (.ptr (some (H.next,0))) none (some v8) none) fun cO=>
ak (e8 uN cO) fun dw=>
K dw uN))))∧
(b2=false→(aK (R lim (.fn 173) [(.sl none 0 (.ex 0)),a0,a1,(.bool false),(.bool false)] H) fun cY uK=>
ak (bF 0 cY) fun cu=>
ak (bF 1 cY) fun cW=>
K cW uK))
def N9 (R:aq) (lim n:Nat) (K:aa→ah→Prop):Nat→Tm→ah→Prop
 | _,_,_=>False
theorem abm (R:aq) (lim n:Nat) (K:aa→ah→Prop) (a0 a1:aa) (H:ah):GD R lim n K a0 a1 H=aS R lim n 32 (N9 R lim n K) f126.body (bS [a0,a1]) H (aM [(.tmp 4)] K):=by kernel_rfl
theorem abn (R:aq) (lim n:Nat) (K:aa→ah→Prop):bO R lim n 32 (N9 R lim n K) f126.body (aM [(.tmp 4)] K):=(aL (by kernel_rfl))
theorem abo {ap:FuncId→Option bg} (hf:ap 126=some (.code f126)) {n lim:Nat} {K:aa→ah→Prop} {a0 a1:aa} {H:ah} (h:GD (au.runT ap n) lim n K a0 a1 H):∃v H',au.runT ap (n+1) lim (.fn 126) [a0,a1] H=some (v,H')∧K v H':=by
 rw [abm] at h
 exact bX hf (by kernel_rfl) (by kernel_rfl) (bw f126.body _ _ _ _ (abn _ _ _ K) (fun _ _ _ h=>h) h)
def uO (R:aq) (lim n:Nat) (K:aa→ah→Prop) (t1 t27 t28:aa) (H:ah):Prop:=
ak (aV t28) fun yA=>
(yA=true→(ak (aU 12 t1) fun v31=>
ak (aB H none v31) fun v32=>
ak (av .eql v32 (.str [])) fun v33=>
K v33 H))∧
(yA=false→(ak (av .eql t27 (.int .u8 2)) fun eX=>
ak (aV eX) fun Oa=>
(Oa=true→(ak (aU 12 t1) fun v36=>
ak (aB H none v36) fun v37=>
ak (bh true v37) fun eY=>
ak (av .eql eY (.int .i64 1)) fun eo=>
ak (gd (some (eo,true)) (aU 12 t1)) fun v40=>
ak (gd (some (eo,true)) (aB H none v40)) fun v41=>
ak (gd (some (eo,true)) (e7 v41 (.int .i64 0))) fun gw=>
ak (gd (some (eo,true)) (av .geq gw (.int .u8 1))) fun fQ=>
ak (bH eo fQ (.bool false)) fun v44=>
ak (gd (some (v44,true)) (aU 12 t1)) fun gN=>
ak (gd (some (v44,true)) (aB H none gN)) fun v46=>
ak (gd (some (v44,true)) (e7 v46 (.int .i64 0))) fun gx=>
ak (gd (some (v44,true)) (av .leq gx (.int .u8 31))) fun fZ=>
ak (bH v44 fZ (.bool false)) fun v49=>
K v49 H))∧
(Oa=false→(ak (aU 2 t1) fun fR=>
ak (aB H none fR) fun v51=>
ak (av .eql v51 (.int .u8 4)) fun gy=>
K gy H))))
def GF (R:aq) (lim n:Nat) (K:aa→ah→Prop) (a0:aa) (H:ah):Prop:=
aK (if (a0).cells.all (·.one) then some (.ptr (some (H.next,0)),H.push (.cells (a0).cells)) else none) fun v1 H2=>
ak (aU 0 v1) fun v3=>
ak (aB H2 none v3) fun v4=>
ak (av .lss v4 (.int .u64 1)) fun v5=>
ak (gd (some (v5,false)) (aU 1 v1)) fun v6=>
ak (gd (some (v5,false)) (aB H2 none v6)) fun v7=>
ak (gd (some (v5,false)) (av .lss v7 (.int .u64 1))) fun v8=>
ak (bH v5 (.bool true) v8) fun v9=>
ak (aV v9) fun mV=>
(mV=true→(K (.bool false) H2))∧
(mV=false→(ak (aU 2 v1) fun v11=>
ak (aB H2 none v11) fun v12=>
ak (av .eql v12 (.int .u8 3)) fun cO=>
ak (aV cO) fun mU=>
(mU=true→(ak (aU 3 v1) fun cY=>
ak (aB H2 none cY) fun cy=>
ak (av .lss cy (.int .u8 4)) fun cu=>
K cu H2))∧
(mU=false→(ak (aU 3 v1) fun cW=>
ak (aB H2 none cW) fun cz=>
ak (av .neq cz (.int .u8 0)) fun v20=>
ak (gd (some (v20,false)) (aU 4 v1)) fun v21=>
ak (gd (some (v20,false)) (aB H2 (some 8) v21)) fun v22=>
ak (gd (some (v20,false)) (fW sD [])) fun v23=>
ak (gd (some (v20,false)) (dZ true (.cells [(.int .u8),(.int .u8),(.int .u8),(.int .u8),(.int .u8),(.int .u8),(.int .u8),(.int .u8)]) v22 v23)) fun v24=>
ak (bH v20 (.bool true) v24) fun v25=>
ak (aV v25) fun mS=>
(mS=true→(K (.bool false) H2))∧
(mS=false→(ak (aU 2 v1) fun v27=>
ak (aB H2 none v27) fun v28=>
ak (av .eql v28 (.int .u8 1)) fun v29=>
ak (aV v29) fun yq=>
(yq=true→(uO R lim n K v1 v28 v29 H2))∧
(yq=false→(ak (av .eql v28 (.int .u8 5)) fun iO=>
uO R lim n K v1 v28 iO H2))))))))
def Ob (R:aq) (lim n:Nat) (K:aa→ah→Prop):Nat→Tm→ah→Prop
 | _,_,_=>False
theorem abp (R:aq) (lim n:Nat) (K:aa→ah→Prop) (a0:aa) (H:ah):GF R lim n K a0 H=aS R lim n 55 (Ob R lim n K) f148.body (bS [a0]) H (aM [(.tmp 2)] K):=by kernel_rfl
theorem abq (R:aq) (lim n:Nat) (K:aa→ah→Prop):bO R lim n 55 (Ob R lim n K) f148.body (aM [(.tmp 2)] K):=(aL (by kernel_rfl))
theorem abr {ap:FuncId→Option bg} (hf:ap 148=some (.code f148)) {n lim:Nat} {K:aa→ah→Prop} {a0:aa} {H:ah} (h:GF (au.runT ap n) lim n K a0 H):∃v H',au.runT ap (n+1) lim (.fn 148) [a0] H=some (v,H')∧K v H':=by
 rw [abp] at h
 exact bX hf (by kernel_rfl) (by kernel_rfl) (bw f148.body _ _ _ _ (abq _ _ _ K) (fun _ _ _ h=>h) h)
def GG (R:aq) (lim n:Nat) (K:aa→ah→Prop) (a0 a1 a2:aa) (H:ah):Prop:=
aK (R lim (.fn 83) [a0] H) fun v1 H2=>
ak (av .neq v1 (.int .i64 0)) fun v3=>
ak (aV v3) fun b4=>
(b4=true→(K v1 H2))∧
(b4=false→(ak (dI a0) fun v5=>
ak (aU 0 v5) fun v6=>
ak (aB H2 none v6) fun v7=>
ak (jV H2 false [.str] (.agg [(.sl none 0 (.ex 0)),(.int .i64 0),(.bool false),(.str [])]) true v7 a1) fun v8=>
ak (bF 0 v8) fun v9=>
ak (bF 1 v8) fun v10=>
ak (bp lim (H2.push (.cells fP)) 4 (.ptr (some (H2.next,0))) v9) fun dV=>
ak (fE .not v10) fun v12=>
ak (aV v12) fun j4=>
(j4=true→(K (.int .i64 4) dV))∧
(j4=false→(aK (R lim (.fn 103) [a0] dV) fun dw ia=>
ak (av .neq dw (.int .i64 0)) fun cy=>
ak (aV cy) fun mN=>
(mN=true→(K dw ia))∧
(mN=false→(ak (aB ia (some 4) (.ptr (some (H2.next,0)))) fun cW=>
aK (Am R lim a2 [cW] ia) fun cz eO=>
K (.int .i64 0) eO))))))
def Oc (R:aq) (lim n:Nat) (K:aa→ah→Prop):Nat→Tm→ah→Prop
 | _,_,_=>False
theorem abt (R:aq) (lim n:Nat) (K:aa→ah→Prop) (a0 a1 a2:aa) (H:ah):GG R lim n K a0 a1 a2 H=aS R lim n 35 (Oc R lim n K) f153.body (bS [a0,a1,a2]) H (aM [(.tmp 6)] K):=by kernel_rfl
theorem abu (R:aq) (lim n:Nat) (K:aa→ah→Prop):bO R lim n 35 (Oc R lim n K) f153.body (aM [(.tmp 6)] K):=(aL (by kernel_rfl))
theorem abv {ap:FuncId→Option bg} (hf:ap 153=some (.code f153)) {n lim:Nat} {K:aa→ah→Prop} {a0 a1 a2:aa} {H:ah} (h:GG (au.runT ap n) lim n K a0 a1 a2 H):∃v H',au.runT ap (n+1) lim (.fn 153) [a0,a1,a2] H=some (v,H')∧K v H':=by
 rw [abt] at h
 exact bX hf (by kernel_rfl) (by kernel_rfl) (bw f153.body _ _ _ _ (abu _ _ _ K) (fun _ _ _ h=>h) h)
def Od (R:aq) (lim n:Nat) (K:aa→ah→Prop) (t5:aa) (H:ah):Prop:=
ak (e8 H t5) fun cu=>
K cu H
def sO (R:aq) (lim n:Nat) (K:aa→ah→Prop) (ay:aa→aa→aa→ah→Prop) (t0 t5 t6:aa) (H:ah):Prop:=
ak (av .geq t6 (.int .i64 0)) fun cW=>
ak (aV cW) fun qT=>
(qT=true→(ak (fo .u8 t0) fun v20=>
ak (cD none 1 t5 t6) fun v21=>
ak (bp lim H 1 v21 v20) fun fu=>
ak (av .shr t0 (.int .u64 8)) fun v23=>
ak (av .sub t6 (.int .i64 1)) fun v24=>
ay v23 t5 v24 fu))∧
(qT=false→(Od R lim n K t5 H))
def pI (R:aq) (lim n:Nat) (K:aa→ah→Prop):Nat→aa→aa→aa→ah→Prop
 | 0,_,_,_,_=>False
 | m+1,t0,t5,t6,H=>sO R lim n K (pI R lim n K m) t0 t5 t6 H
def GH (R:aq) (lim n:Nat) (K:aa→ah→Prop) (a0 a1:aa) (H:ah):Prop:=
ak (av .lss a1 (.int .i64 1)) fun v1=>
ak (gd (some (v1,false)) (some a1)) fun v2=>
ak (gd (some (v1,false)) (av .gtr v2 (.int .i64 8))) fun v3=>
ak (bH v1 (.bool true) v3) fun v4=>
ak (aV v4) fun b5=>
(b5=true→(K (.str []) H))∧
(b5=false→(aK (pW H [(.int .u8 0)] 1 a1 a1) fun v6 H7=>
ak (av .sub a1 (.int .i64 1)) fun v8=>
pI R lim n K n a0 v6 v8 H7))
def BE (R:aq) (lim n:Nat) (K:aa→ah→Prop):Nat→Tm→ah→Prop
 | 0,T,H=>pI R lim n K n (T 0) (T 5) (T 6) H
 | _,_,_=>False
def abw (R:aq) (lim n:Nat) (K:aa→ah→Prop) (ay:aa→aa→aa→ah→Prop):Nat→Tm→ah→Prop
 | _,_,_=>False
def Oe (R:aq) (lim n:Nat) (K:aa→ah→Prop) (ay:aa→aa→aa→ah→Prop):Kt:=fun ex T H=>match ex with
 | .norm=>ay (T 0) (T 5) (T 6) H
 | ex=>(bZ 0 (cE (aS R lim n 30 (BE R lim n K) Ev) (aM [(.tmp 4)] K))) ex T H
theorem abx (R:aq) (lim n:Nat) (K:aa→ah→Prop) (ay:aa→aa→aa→ah→Prop) (T:Tm) (H:ah):sO R lim n K ay (T 0) (T 5) (T 6) H=aS R lim n 30 (abw R lim n K ay) xz T H (Oe R lim n K ay):=by kernel_rfl
theorem Of (R:aq) (lim n:Nat) (K:aa→ah→Prop) {kw:Kt} (hk:∀ex T H,(bZ 0 (cE (aS R lim n 30 (BE R lim n K) Ev) (aM [(.tmp 4)] K))) ex T H→kw ex T H):∀(m:Nat) (T:Tm) (H:ah),pI R lim n K m (T 0) (T 5) (T 6) H→cH (cg R lim n 30 xz) m T H kw
 | 0,_,_,h=>False.elim h
 | m+1,T,H,h=>by
  have hb:∀ex T H,Oe R lim n K (pI R lim n K m) ex T H→(fun ex T H=>match ex with | .norm=>cH (cg R lim n 30 xz) m T H kw | ex=>kw ex T H:Kt) ex T H:=by
   intro ex T H h
   cases ex with
   | norm=>exact Of R lim n K hk m T H h
   | exit i=>exact hk _ _ _ h
   | ret=>exact hk _ _ _ h
  have h':sO R lim n K (pI R lim n K m) (T 0) (T 5) (T 6) H:=h
  rw [abx] at h'
  exact bw xz T H _ _ (aL (by kernel_rfl)) hb h'
theorem aby (R:aq) (lim n:Nat) (K:aa→ah→Prop) (a0 a1:aa) (H:ah):GH R lim n K a0 a1 H=aS R lim n 30 (BE R lim n K) f155.body (bS [a0,a1]) H (aM [(.tmp 4)] K):=by kernel_rfl
theorem abz (R:aq) (lim n:Nat) (K:aa→ah→Prop):bO R lim n 30 (BE R lim n K) f155.body (aM [(.tmp 4)] K):=⟨(aL (by kernel_rfl)),⟨(aL (by kernel_rfl)),⟨(aL (by kernel_rfl)),⟨⟨(aL (by kernel_rfl)),(fun T H h=>Of R lim n K (eV (fX (aL (by kernel_rfl)) (fun _ _ _ h=>h))) _ T H h)⟩,(aL (by kernel_rfl))⟩⟩⟩⟩
theorem abA {ap:FuncId→Option bg} (hf:ap 155=some (.code f155)) {n lim:Nat} {K:aa→ah→Prop} {a0 a1:aa} {H:ah} (h:GH (au.runT ap n) lim n K a0 a1 H):∃v H',au.runT ap (n+1) lim (.fn 155) [a0,a1] H=some (v,H')∧K v H':=by
 rw [aby] at h
 exact bX hf (by kernel_rfl) (by kernel_rfl) (bw f155.body _ _ _ _ (abz _ _ _ K) (fun _ _ _ h=>h) h)
def GI (R:aq) (lim n:Nat) (K:aa→ah→Prop) (a0 a1 a2:aa) (H:ah):Prop:=
aK (if (a0).cells.all (·.one) then some (.ptr (some (H.next,0)),H.push (.cells (a0).cells)) else none) fun v1 H2=>
ak (aU 0 v1) fun v3=>
ak (aB H2 none v3) fun v4=>
ak (bh false v4) fun v5=>
ak (aU 1 v1) fun v6=>
ak (bp lim H2 1 v6 v5) fun H7=>
ak (aB H7 none a1) fun v8=>
ak (dI v8) fun v9=>
ak (aU 0 v9) fun v10=>
ak (aB H7 none v10) fun v11=>
ak (aB H7 none a2) fun v12=>
ak (aB H7 (some 4) v1) fun cO=>
aK ((lp lim H7 false [.str] v11 v12 cO).map fun H=>(bA,H)) fun _ mR=>
K (.bq []) mR
def Og (R:aq) (lim n:Nat) (K:aa→ah→Prop):Nat→Tm→ah→Prop
 | _,_,_=>False
theorem abB (R:aq) (lim n:Nat) (K:aa→ah→Prop) (a0 a1 a2:aa) (H:ah):GI R lim n K a0 a1 a2 H=aS R lim n 14 (Og R lim n K) f156.body (bS [a0,a1,a2]) H (aM [] K):=by kernel_rfl
theorem abC (R:aq) (lim n:Nat) (K:aa→ah→Prop):bO R lim n 14 (Og R lim n K) f156.body (aM [] K):=(aL (by kernel_rfl))
theorem abD {ap:FuncId→Option bg} (hf:ap 156=some (.code f156)) {n lim:Nat} {K:aa→ah→Prop} {a0 a1 a2:aa} {H:ah} (h:GI (au.runT ap n) lim n K a0 a1 a2 H):∃v H',au.runT ap (n+1) lim (.fn 156) [a0,a1,a2] H=some (v,H')∧K v H':=by
 rw [abB] at h
 exact bX hf (by kernel_rfl) (by kernel_rfl) (bw f156.body _ _ _ _ (abC _ _ _ K) (fun _ _ _ h=>h) h)
def Oh (R:aq) (lim n:Nat) (K:aa→ah→Prop) (t1:aa) (H:ah):Prop:=
ak (aU 3 t1) fun dw=>
ak (aB H none dw) fun cY=>
ak (av .eql cY (.int .u8 0)) fun cy=>
K cy H
def sP (R:aq) (lim n:Nat) (K:aa→ah→Prop) (ay:aa→aa→ah→Prop) (t1 t3:aa) (H:ah):Prop:=
ak (av .lss t3 (.int .i64 8)) fun cu=>
ak (aV cu) fun mP=>
(mP=true→(ak (aU 4 t1) fun cz=>
ak (cD (some 8) 1 cz t3) fun v20=>
ak (aB H none v20) fun v21=>
ak (av .neq v21 (.int .u8 0)) fun v22=>
ak (aV v22) fun mT=>
(mT=true→(K (.bool false) H))∧
(mT=false→(ak (av .add t3 (.int .i64 1)) fun v24=>
ay t1 v24 H))))∧
(mP=false→(Oh R lim n K t1 H))
def pJ (R:aq) (lim n:Nat) (K:aa→ah→Prop):Nat→aa→aa→ah→Prop
 | 0,_,_,_=>False
 | m+1,t1,t3,H=>sP R lim n K (pJ R lim n K m) t1 t3 H
def GJ (R:aq) (lim n:Nat) (K:aa→ah→Prop) (a0:aa) (H:ah):Prop:=
aK (if (a0).cells.all (·.one) then some (.ptr (some (H.next,0)),H.push (.cells (a0).cells)) else none) fun v1 H2=>
pJ R lim n K n v1 (.int .i64 0) H2
def BF (R:aq) (lim n:Nat) (K:aa→ah→Prop):Nat→Tm→ah→Prop
 | 0,T,H=>pJ R lim n K n (T 1) (T 3) H
 | _,_,_=>False
def abE (R:aq) (lim n:Nat) (K:aa→ah→Prop) (ay:aa→aa→ah→Prop):Nat→Tm→ah→Prop
 | _,_,_=>False
def Oi (R:aq) (lim n:Nat) (K:aa→ah→Prop) (ay:aa→aa→ah→Prop):Kt:=fun ex T H=>match ex with
 | .norm=>ay (T 1) (T 3) H
 | ex=>(bZ 0 (cE (aS R lim n 16 (BF R lim n K) Ew) (aM [(.tmp 2)] K))) ex T H
theorem abF (R:aq) (lim n:Nat) (K:aa→ah→Prop) (ay:aa→aa→ah→Prop) (T:Tm) (H:ah):sP R lim n K ay (T 1) (T 3) H=aS R lim n 16 (abE R lim n K ay) xA T H (Oi R lim n K ay):=by kernel_rfl
theorem Oj (R:aq) (lim n:Nat) (K:aa→ah→Prop) {kw:Kt} (hk:∀ex T H,(bZ 0 (cE (aS R lim n 16 (BF R lim n K) Ew) (aM [(.tmp 2)] K))) ex T H→kw ex T H):∀(m:Nat) (T:Tm) (H:ah),pJ R lim n K m (T 1) (T 3) H→cH (cg R lim n 16 xA) m T H kw
 | 0,_,_,h=>False.elim h
 | m+1,T,H,h=>by
  have hb:∀ex T H,Oi R lim n K (pJ R lim n K m) ex T H→(fun ex T H=>match ex with | .norm=>cH (cg R lim n 16 xA) m T H kw | ex=>kw ex T H:Kt) ex T H:=by
   intro ex T H h
   cases ex with
   | norm=>exact Oj R lim n K hk m T H h
   | exit i=>exact hk _ _ _ h
   | ret=>exact hk _ _ _ h
  have h':sP R lim n K (pJ R lim n K m) (T 1) (T 3) H:=h
  rw [abF] at h'
  exact bw xA T H _ _ (aL (by kernel_rfl)) hb h'
theorem abG (R:aq) (lim n:Nat) (K:aa→ah→Prop) (a0:aa) (H:ah):GJ R lim n K a0 H=aS R lim n 16 (BF R lim n K) f160.body (bS [a0]) H (aM [(.tmp 2)] K):=by kernel_rfl
theorem abH (R:aq) (lim n:Nat) (K:aa→ah→Prop):bO R lim n 16 (BF R lim n K) f160.body (aM [(.tmp 2)] K):=⟨(aL (by kernel_rfl)),⟨⟨(aL (by kernel_rfl)),(fun T H h=>Oj R lim n K (eV (fX (aL (by kernel_rfl)) (fun _ _ _ h=>h))) _ T H h)⟩,(aL (by kernel_rfl))⟩⟩
theorem abI {ap:FuncId→Option bg} (hf:ap 160=some (.code f160)) {n lim:Nat} {K:aa→ah→Prop} {a0:aa} {H:ah} (h:GJ (au.runT ap n) lim n K a0 H):∃v H',au.runT ap (n+1) lim (.fn 160) [a0] H=some (v,H')∧K v H':=by
 rw [abG] at h
 exact bX hf (by kernel_rfl) (by kernel_rfl) (bw f160.body _ _ _ _ (abH _ _ _ K) (fun _ _ _ h=>h) h)
def BG (R:aq) (lim n:Nat) (K:aa→ah→Prop) (t1 t3:aa) (H:ah):Prop:=
ak (aU 2 t1) fun v25=>
ak (aB H none v25) fun v26=>
ak (av .eql v26 (.int .u8 1)) fun v27=>
ak (gd (some (v27,false)) (aU 2 t1)) fun v28=>
ak (gd (some (v27,false)) (aB H none v28)) fun v29=>
ak (gd (some (v27,false)) (av .eql v29 (.int .u8 5))) fun v30=>
ak (bH v27 (.bool true) v30) fun v31=>
ak (aV v31) fun Ol=>
(Ol=true→(K t3 H))∧
(Ol=false→(ak (aU 12 t1) fun v33=>
ak (aB H none v33) fun eX=>
aK ((cU [(.str [])] [(0,1,eX)]).map fun cs=>(.sl (some (H.next,0)) 1 (.ex 1),H.push (.cells cs))) fun v35 pq=>
aK (R lim (.fn 205) [v35] pq) fun v37 xZ=>
ak (av .add t3 v37) fun eo=>
K eo xZ))
def GK (R:aq) (lim n:Nat) (K:aa→ah→Prop) (a0:aa) (H:ah):Prop:=
aK (if (a0).cells.all (·.one) then some (.ptr (some (H.next,0)),H.push (.cells (a0).cells)) else none) fun v1 H2=>
ak (aB H2 (some 13) v1) fun v3=>
aK (R lim (.fn 148) [v3] H2) fun v4 H5=>
ak (fE .not v4) fun v6=>
ak (aV v6) fun b7=>
(b7=true→(K (.str []) H5))∧
(b7=false→(ak (aU 2 v1) fun v8=>
ak (aB H5 none v8) fun v9=>
aK ((cU [(.int .u8 0)] [(0,1,v9)]).map fun cs=>(.sl (some (H5.next,0)) 1 (.ex 1),H5.push (.cells cs))) fun v10 dV=>
ak (e8 dV v10) fun v12=>
ak (aU 0 v1) fun cO=>
ak (aB dV none cO) fun dw=>
ak (aU 1 v1) fun cY=>
ak (aB dV none cY) fun cy=>
aK ((cU AS [(0,1,dw),(1,1,cy)]).map fun cs=>(.sl (some (dV.next,0)) 2 (.ex 2),dV.push (.cells cs))) fun cu mL=>
aK (R mL.next (.fn 118) [cu] mL) fun cz eO=>
ak (av .add v12 cz) fun v21=>
ak (aU 2 v1) fun v22=>
ak (aB eO none v22) fun v23=>
ak (av .eql v23 (.int .u8 3)) fun v24=>
ak (aV v24) fun qZ=>
(qZ=true→(ak (aU 3 v1) fun v41=>
ak (aB eO none v41) fun gw=>
aK ((cU [(.int .u8 0)] [(0,1,gw)]).map fun cs=>(.sl (some (eO.next,0)) 1 (.ex 1),eO.push (.cells cs))) fun fQ nL=>
ak (e8 nL fQ) fun gN=>
ak (aU 4 v1) fun v46=>
ak (kD 8 1 v46 none none none) fun gx=>
ak (e8 nL gx) fun fZ=>
ak (av .add gN fZ) fun v49=>
ak (av .add v21 v49) fun fR=>
BG R lim n K v1 fR nL))∧
(qZ=false→(BG R lim n K v1 v21 eO))))
def Om (R:aq) (lim n:Nat) (K:aa→ah→Prop):Nat→Tm→ah→Prop
 | _,_,_=>False
theorem abJ (R:aq) (lim n:Nat) (K:aa→ah→Prop) (a0:aa) (H:ah):GK R lim n K a0 H=aS R lim n 46 (Om R lim n K) f161.body (bS [a0]) H (aM [(.tmp 2)] K):=by kernel_rfl
theorem abK (R:aq) (lim n:Nat) (K:aa→ah→Prop):bO R lim n 46 (Om R lim n K) f161.body (aM [(.tmp 2)] K):=(aL (by kernel_rfl))
theorem abL {ap:FuncId→Option bg} (hf:ap 161=some (.code f161)) {n lim:Nat} {K:aa→ah→Prop} {a0:aa} {H:ah} (h:GK (au.runT ap n) lim n K a0 H):∃v H',au.runT ap (n+1) lim (.fn 161) [a0] H=some (v,H')∧K v H':=by
 rw [abJ] at h
 exact bX hf (by kernel_rfl) (by kernel_rfl) (bw f161.body _ _ _ _ (abK _ _ _ K) (fun _ _ _ h=>h) h)
def GL (R:aq) (lim n:Nat) (K:aa→ah→Prop) (a0:aa) (H:ah):Prop:=
aK (R lim (.fn 119) [a0] H) fun v1 H2=>
ak (bF 0 v1) fun v3=>
ak (bF 1 v1) fun v4=>
ak (bF 2 v1) fun v5=>
ak (fE .not v5) fun v6=>
ak (gd (some (v6,false)) (some v3)) fun v7=>
ak (gd (some (v6,false)) (some a0)) fun v8=>
ak (gd (some (v6,false)) (bh true v8)) fun v9=>
ak (gd (some (v6,false)) (some v4)) fun v10=>
ak (gd (some (v6,false)) (av .sub v9 v10)) fun v11=>
ak (gd (some (v6,false)) (fo .u64 v11)) fun v12=>
ak (gd (some (v6,false)) (av .gtr v7 v12)) fun cO=>
ak (bH v6 (.bool true) cO) fun dw=>
ak (aV dw) fun On=>
(On=true→(K (.bq [(.str []),(.int .i64 0),(.bool false)]) H2))∧
(On=false→(ak (fo .i64 v3) fun cy=>
ak (av .add v4 cy) fun cu=>
ak (dS a0 (some v4) (some cu)) fun cW=>
ak (fo .i64 v3) fun cz=>
ak (av .add v4 cz) fun v20=>
K (.bq [cW,v20,(.bool true)]) H2))
def Oo (R:aq) (lim n:Nat) (K:aa→ah→Prop):Nat→Tm→ah→Prop
 | _,_,_=>False
theorem abM (R:aq) (lim n:Nat) (K:aa→ah→Prop) (a0:aa) (H:ah):GL R lim n K a0 H=aS R lim n 35 (Oo R lim n K) f162.body (bS [a0]) H (aM [(.tmp 2),(.tmp 3),(.tmp 4)] K):=by kernel_rfl
theorem abN (R:aq) (lim n:Nat) (K:aa→ah→Prop):bO R lim n 35 (Oo R lim n K) f162.body (aM [(.tmp 2),(.tmp 3),(.tmp 4)] K):=(aL (by kernel_rfl))
theorem abO {ap:FuncId→Option bg} (hf:ap 162=some (.code f162)) {n lim:Nat} {K:aa→ah→Prop} {a0:aa} {H:ah} (h:GL (au.runT ap n) lim n K a0 H):∃v H',au.runT ap (n+1) lim (.fn 162) [a0] H=some (v,H')∧K v H':=by
 rw [abM] at h
 exact bX hf (by kernel_rfl) (by kernel_rfl) (bw f162.body _ _ _ _ (abN _ _ _ K) (fun _ _ _ h=>h) h)
def GM (R:aq) (lim n:Nat) (K:aa→ah→Prop) (a0:aa) (H:ah):Prop:=
ak (av .lss a0 (.int .i64 10)) fun v1=>
ak (aV v1) fun b2=>
(b2=true→(ak (av .add a0 (.int .i64 1)) fun v3=>
ak (dS (.str [48,49,50,51,52,53,54,55,56,57,97,98,99,100,101,102,103,104,105,106,107,108,109,110,111,112,113,114,115,116,117,118,119,120,121,122]) (some a0) (some v3)) fun v4=>
K v4 H))∧
(b2=false→(ak (av .mul a0 (.int .i64 2)) fun v5=>
ak (av .mul a0 (.int .i64 2)) fun v6=>
ak (av .add v6 (.int .i64 2)) fun v7=>
ak (dS (.str [48,48,48,49,48,50,48,51,48,52,48,53,48,54,48,55,48,56,48,57,49,48,49,49,49,50,49,51,49,52,49,53,49,54,49,55,49,56,49,57,50,48,50,49,50,50,50,51,50,52,50,53,50,54,50,55,50,56,50,57,51,48,51,49,51,50,51,51,51,52,51,53,51,54,51,55,51,56,51,57,52,48,52,49,52,50,52,51,52,52,52,53,52,54,52,55,52,56,52,57,53,48,53,49,53,50,53,51,53,52,53,53,53,54,53,55,53,56,53,57,54,48,54,49,54,50,54,51,54,52,54,53,54,54,54,55,54,56,54,57,55,48,55,49,55,50,55,51,55,52,55,53,55,54,55,55,55,56,55,57,56,48,56,49,56,50,56,51,56,52,56,53,56,54,56,55,56,56,56,57,57,48,57,49,57,50,57,51,57,52,57,53,57,54,57,55,57,56,57,57]) (some v5) (some v7)) fun v8=>
K v8 H))
def Oq (R:aq) (lim n:Nat) (K:aa→ah→Prop):Nat→Tm→ah→Prop
 | _,_,_=>False
theorem abP (R:aq) (lim n:Nat) (K:aa→ah→Prop) (a0:aa) (H:ah):GM R lim n K a0 H=aS R lim n 15 (Oq R lim n K) f170.body (bS [a0]) H (aM [(.tmp 2)] K):=by kernel_rfl
theorem abQ (R:aq) (lim n:Nat) (K:aa→ah→Prop):bO R lim n 15 (Oq R lim n K) f170.body (aM [(.tmp 2)] K):=(aL (by kernel_rfl))
theorem abR {ap:FuncId→Option bg} (hf:ap 170=some (.code f170)) {n lim:Nat} {K:aa→ah→Prop} {a0:aa} {H:ah} (h:GM (au.runT ap n) lim n K a0 H):∃v H',au.runT ap (n+1) lim (.fn 170) [a0] H=some (v,H')∧K v H':=by
 rw [abP] at h
 exact bX hf (by kernel_rfl) (by kernel_rfl) (bw f170.body _ _ _ _ (abQ _ _ _ K) (fun _ _ _ h=>h) h)
def Ot (R:aq) (lim n:Nat) (K:aa→ah→Prop) (t3:aa) (H:ah):Prop:=
K t3 H
def sQ (R:aq) (lim n:Nat) (K:aa→ah→Prop) (ay:aa→aa→aa→aa→ah→Prop) (t3 t6 t7 t8:aa) (H:ah):Prop:=
ak (av .lss t8 t7) fun cY=>
ak (aV cY) fun qS=>
(qS=true→(ak (cD none 1 t6 t8) fun cu=>
ak (aB H none cu) fun cW=>
ak (bh true cW) fun cz=>
ak (fo .u64 cz) fun v20=>
aK ((cU [(.int .u64 0)] [(0,1,v20)]).map fun cs=>(.sl (some (H.next,0)) 1 (.ex 1),H.push (.cells cs))) fun v21 fu=>
aK (R lim (.fn 118) [v21] fu) fun v23 fJ=>
ak (av .add v23 cW) fun v25=>
ak (av .add t3 v25) fun v26=>
ak (av .add t8 (.int .i64 1)) fun v27=>
ay v26 t6 t7 v27 fJ))∧
(qS=false→(Ot R lim n K t3 H))
def q6 (R:aq) (lim n:Nat) (K:aa→ah→Prop):Nat→aa→aa→aa→aa→ah→Prop
 | 0,_,_,_,_,_=>False
 | m+1,t3,t6,t7,t8,H=>sQ R lim n K (q6 R lim n K m) t3 t6 t7 t8 H
def GN (R:aq) (lim n:Nat) (K:aa→ah→Prop) (a0:aa) (H:ah):Prop:=
ak (bh false a0) fun v1=>
q6 R lim n K n (.str []) a0 v1 (.int .i64 0) H
def BH (R:aq) (lim n:Nat) (K:aa→ah→Prop):Nat→Tm→ah→Prop
 | 0,T,H=>q6 R lim n K n (T 3) (T 6) (T 7) (T 8) H
 | _,_,_=>False
def abS (R:aq) (lim n:Nat) (K:aa→ah→Prop) (ay:aa→aa→aa→aa→ah→Prop):Nat→Tm→ah→Prop
 | _,_,_=>False
def Ou (R:aq) (lim n:Nat) (K:aa→ah→Prop) (ay:aa→aa→aa→aa→ah→Prop):Kt:=fun ex T H=>match ex with
 | .norm=>ay (T 3) (T 6) (T 7) (T 8) H
 | ex=>(bZ 0 (cE (aS R lim n 23 (BH R lim n K) Ey) (aM [(.tmp 2)] K))) ex T H
theorem abT (R:aq) (lim n:Nat) (K:aa→ah→Prop) (ay:aa→aa→aa→aa→ah→Prop) (T:Tm) (H:ah):sQ R lim n K ay (T 3) (T 6) (T 7) (T 8) H=aS R lim n 23 (abS R lim n K ay) xB T H (Ou R lim n K ay):=by kernel_rfl
theorem Ov (R:aq) (lim n:Nat) (K:aa→ah→Prop) {kw:Kt} (hk:∀ex T H,(bZ 0 (cE (aS R lim n 23 (BH R lim n K) Ey) (aM [(.tmp 2)] K))) ex T H→kw ex T H):∀(m:Nat) (T:Tm) (H:ah),q6 R lim n K m (T 3) (T 6) (T 7) (T 8) H→cH (cg R lim n 23 xB) m T H kw
 | 0,_,_,h=>False.elim h
 | m+1,T,H,h=>by
  have hb:∀ex T H,Ou R lim n K (q6 R lim n K m) ex T H→(fun ex T H=>match ex with | .norm=>cH (cg R lim n 23 xB) m T H kw | ex=>kw ex T H:Kt) ex T H:=by
   intro ex T H h
   cases ex with
   | norm=>exact Ov R lim n K hk m T H h
   | exit i=>exact hk _ _ _ h
   | ret=>exact hk _ _ _ h
  have h':sQ R lim n K (q6 R lim n K m) (T 3) (T 6) (T 7) (T 8) H:=h
  rw [abT] at h'
  exact bw xB T H _ _ (aL (by kernel_rfl)) hb h'
theorem abU (R:aq) (lim n:Nat) (K:aa→ah→Prop) (a0:aa) (H:ah):GN R lim n K a0 H=aS R lim n 23 (BH R lim n K) f205.body (bS [a0]) H (aM [(.tmp 2)] K):=by kernel_rfl
theorem abV (R:aq) (lim n:Nat) (K:aa→ah→Prop):bO R lim n 23 (BH R lim n K) f205.body (aM [(.tmp 2)] K):=⟨(aL (by kernel_rfl)),⟨(aL (by kernel_rfl)),⟨⟨(aL (by kernel_rfl)),(fun T H h=>Ov R lim n K (eV (fX (aL (by kernel_rfl)) (fun _ _ _ h=>h))) _ T H h)⟩,(aL (by kernel_rfl))⟩⟩⟩
theorem abW {ap:FuncId→Option bg} (hf:ap 205=some (.code f205)) {n lim:Nat} {K:aa→ah→Prop} {a0:aa} {H:ah} (h:GN (au.runT ap n) lim n K a0 H):∃v H',au.runT ap (n+1) lim (.fn 205) [a0] H=some (v,H')∧K v H':=by
 rw [abU] at h
 exact bX hf (by kernel_rfl) (by kernel_rfl) (bw f205.body _ _ _ _ (abV _ _ _ K) (fun _ _ _ h=>h) h)
end Go.Proofs.YtfigbgjbaohglaaGreatDoor.bP
