/- What each function comes to, as one formula; printed by genw.py. -/
import Derived.Test.YtjflpnahjooffaaCxAp
import Derived.Test.YtjflpnahjooffaaChsW1
set_option maxRecDepth 100000
set_option linter.unusedVariables false
namespace Go.Proofs.Ytjflpnahjooffaa.cat
open Go.Ahs
def z547173 : List AVal := [(.int .i64 0), (.int .i64 0), (.int .i64 0), (.int .i64 0)]
def zdff0c5 : List AVal := [(.int .u8 0), (.int .u8 0), (.int .u8 0), (.int .u8 0), (.int .u8 0), (.int .u8 0), (.int .u8 0), (.int .u8 0)]
def z70c9c7 : List AVal := [(.int .u64 0), (.int .u64 0), (.int .u64 0), (.int .u64 0)]
def z39dd08 : List AVal := [(.int .i64 0), (.int .i64 0), (.int .i64 0), (.int .i64 0), (.int .i64 0), (.int .i64 0), (.int .i64 0), (.int .i64 0), (.int .i64 0), (.int .i64 0), (.int .i64 0), (.int .i64 0), (.int .i64 0), (.int .i64 0), (.int .i64 0), (.int .i64 0), (.map none)]
def zc0a9bf : List AVal := [(.ptr none), (.ptr none), (.ptr none), (.ptr none)]
def z8c4342 : List AVal := [(.int .u8 0), (.int .u8 0), (.int .u8 0), (.int .u8 0), (.int .u8 0), (.int .u8 0), (.int .u8 0), (.int .u8 0), (.int .u8 0), (.int .u8 0)]
def F7_j0 (R : Caller) (lim n : Nat) (K : AVal → Heap → Prop) (H : Heap) : Prop :=
bind2 (R lim (.fn 19) [] H) fun v655 H656 =>
K v655 H656
def F7_j1 (R : Caller) (lim n : Nat) (K : AVal → Heap → Prop) (rec0 : AVal → AVal → AVal → Heap → Prop) (t0 t3 t4 t14 : AVal) (H : Heap) : Prop :=
bindP (aindexAddr (some 4) 1 t14 (.int .i64 0)) fun v1133 =>
bindP (aload H none v1133) fun v1134 =>
bindP (abin .gtr v1134 (.int .i64 4)) fun v1135 =>
bindP (gd (some (v1135, false)) (aindexAddr (some 4) 1 t14 (.int .i64 1))) fun v1136 =>
bindP (gd (some (v1135, false)) (aload H none v1136)) fun v1137 =>
bindP (gd (some (v1135, false)) (abin .gtr v1137 (.int .i64 4))) fun v1138 =>
bindP (pickO v1135 (.bool true) v1138) fun v1139 =>
bindP (gd (some (v1139, false)) (aindexAddr (some 4) 1 t14 (.int .i64 2))) fun v1140 =>
bindP (gd (some (v1139, false)) (aload H none v1140)) fun v1141 =>
bindP (gd (some (v1139, false)) (abin .gtr v1141 (.int .i64 4))) fun v1142 =>
bindP (pickO v1139 (.bool true) v1142) fun v1143 =>
bindP (gd (some (v1143, false)) (aindexAddr (some 4) 1 t14 (.int .i64 3))) fun v1144 =>
bindP (gd (some (v1143, false)) (aload H none v1144)) fun v1145 =>
bindP (gd (some (v1143, false)) (abin .gtr v1145 (.int .i64 4))) fun v1146 =>
bindP (pickO v1143 (.bool true) v1146) fun v1147 =>
bindP (boolOf v1147) fun b1148 =>
(b1148 = true → (K (.bool false) H)) ∧
(b1148 = false → (bindP (abin .add t4 (.int .i64 1)) fun v1149 =>
rec0 t0 t3 v1149 H))
def F7_j2 (R : Caller) (lim n : Nat) (K : AVal → Heap → Prop) (rec0 : AVal → AVal → AVal → Heap → Prop) (rec4 : AVal → AVal → AVal → AVal → AVal → AVal → Heap → Prop) (t0 t3 t4 t14 t15 t16 : AVal) (H : Heap) : Prop :=
bindP (abin .add t16 (.int .i64 1)) fun v1152 =>
rec4 t0 t3 t4 t14 t15 v1152 H
def F7_j3 (R : Caller) (lim n : Nat) (K : AVal → Heap → Prop) (rec0 : AVal → AVal → AVal → Heap → Prop) (rec4 : AVal → AVal → AVal → AVal → AVal → AVal → Heap → Prop) (t0 t3 t4 t14 t15 t16 t17 t18 t19 t20 : AVal) (H : Heap) : Prop :=
bindP (aun .not t19) fun v1214 =>
bindP (gd (some (v1214, false)) (some t20)) fun v1215 =>
bindP (pickO v1214 (.bool true) v1215) fun v1216 =>
bindP (boolOf v1216) fun b1217 =>
(b1217 = true → (F7_j2 R lim n K rec0 rec4 t0 t3 t4 t14 t15 t16 H)) ∧
(b1217 = false → (bind2 (R lim (.fn 26) [t3, t17] H) fun v1218 H1219 =>
bindP (extO 0 v1218) fun v1220 =>
bindP (extO 1 v1218) fun v1221 =>
bindP (astore lim (H1219.push (.cells z547173)) 4 (.ptr (some (H1219.next, 0))) v1220) fun H1222 =>
bindP (aun .not v1221) fun v1223 =>
bindP (gd (some (v1223, false)) (some t18)) fun v1224 =>
bindP (gd (some (v1223, false)) (abin .lss v1224 (.int .u8 1))) fun v1225 =>
bindP (pickO v1223 (.bool true) v1225) fun v1226 =>
bindP (gd (some (v1226, false)) (some t18)) fun v1227 =>
bindP (gd (some (v1226, false)) (abin .gtr v1227 (.int .u8 3))) fun v1228 =>
bindP (pickO v1226 (.bool true) v1228) fun v1229 =>
bindP (gd (some (v1229, false)) (some t0)) fun v1230 =>
bindP (gd (some (v1229, false)) (some t16)) fun v1231 =>
bindP (gd (some (v1229, false)) (aindexAddr none 15 v1230 v1231)) fun v1232 =>
bindP (gd (some (v1229, false)) (faddrO 3 v1232)) fun v1233 =>
bindP (gd (some (v1229, false)) (aload H1222 (some 8) v1233)) fun v1234 =>
bind2 (gd2 (some (v1229, false)) H1222 (R lim (.fn 25) [] H1222)) fun v1235 H1236 =>
keptG (some (v1229, false)) H1222 H1236 [v1233] ∧
bindP (gd (some (v1229, false)) (eqvO false (.cells [(.int .u8), (.int .u8), (.int .u8), (.int .u8), (.int .u8), (.int .u8), (.int .u8), (.int .u8)]) v1234 v1235)) fun v1237 =>
bindP (pickO v1229 (.bool true) v1237) fun v1238 =>
bindP (boolOf v1238) fun b1239 =>
(b1239 = true → (K (.bool false) H1236)) ∧
(b1239 = false → (bindP (aindexAddr none 15 t0 t16) fun v1240 =>
bindP (faddrO 3 v1240) fun v1241 =>
bindP (aload H1236 (some 8) v1241) fun v1242 =>
bind2 ((fillV zdff0c5 [(0, 8, v1242)]).map fun cs => (.sl (some (H1236.next, 0)) 1 (.ex 1), H1236.push (.cells cs))) fun v1243 H1244 =>
bind2 (aappend lim H1244 zdff0c5 8 false t15 v1243) fun v1245 H1246 =>
bindP (aindexAddr (some 4) 1 t14 t17) fun v1247 =>
bindP (aload H1246 none v1247) fun v1248 =>
bindP (abin .add v1248 (.int .i64 1)) fun v1249 =>
bindP (aindexAddr (some 4) 1 t14 t17) fun v1250 =>
bindP (astore lim H1246 1 v1250 v1249) fun H1251 =>
F7_j2 R lim n K rec0 rec4 t0 t3 t4 t14 v1245 t16 H1251))))
def F7_s6 (R : Caller) (lim n : Nat) (K : AVal → Heap → Prop) (rec0 : AVal → AVal → AVal → Heap → Prop) (rec4 : AVal → AVal → AVal → AVal → AVal → AVal → Heap → Prop) (rec6 : AVal → AVal → AVal → AVal → AVal → AVal → AVal → AVal → AVal → AVal → AVal → Heap → Prop) (t0 t3 t4 t14 t15 t16 t17 t18 t19 t20 t21 : AVal) (H : Heap) : Prop :=
bindP (alen false t15) fun v1252 =>
bindP (abin .lss t21 v1252) fun v1253 =>
bindP (boolOf v1253) fun b1254 =>
(b1254 = true → (bindP (gd (some (t20, false)) (some t15)) fun v1255 =>
bindP (gd (some (t20, false)) (some t21)) fun v1256 =>
bindP (gd (some (t20, false)) (aindexAddr none 8 v1255 v1256)) fun v1257 =>
bindP (gd (some (t20, false)) (aload H (some 8) v1257)) fun v1258 =>
bindP (gd (some (t20, false)) (some t0)) fun v1259 =>
bindP (gd (some (t20, false)) (some t16)) fun v1260 =>
bindP (gd (some (t20, false)) (aindexAddr none 15 v1259 v1260)) fun v1261 =>
bindP (gd (some (t20, false)) (faddrO 3 v1261)) fun v1262 =>
bindP (gd (some (t20, false)) (aload H (some 8) v1262)) fun v1263 =>
bindP (gd (some (t20, false)) (eqvO false (.cells [(.int .u8), (.int .u8), (.int .u8), (.int .u8), (.int .u8), (.int .u8), (.int .u8), (.int .u8)]) v1258 v1263)) fun v1264 =>
bindP (pickO t20 (.bool true) v1264) fun v1265 =>
bindP (abin .add t21 (.int .i64 1)) fun v1266 =>
rec6 t0 t3 t4 t14 t15 t16 t17 t18 t19 v1265 v1266 H)) ∧
(b1254 = false → (F7_j3 R lim n K rec0 rec4 t0 t3 t4 t14 t15 t16 t17 t18 t19 t20 H))
def F7_l6 (R : Caller) (lim n : Nat) (K : AVal → Heap → Prop) (rec0 : AVal → AVal → AVal → Heap → Prop) (rec4 : AVal → AVal → AVal → AVal → AVal → AVal → Heap → Prop) : Nat → AVal → AVal → AVal → AVal → AVal → AVal → AVal → AVal → AVal → AVal → AVal → Heap → Prop
  | 0, _, _, _, _, _, _, _, _, _, _, _, _ => False
  | m + 1, t0, t3, t4, t14, t15, t16, t17, t18, t19, t20, t21, H => F7_s6 R lim n K rec0 rec4 (F7_l6 R lim n K rec0 rec4 m) t0 t3 t4 t14 t15 t16 t17 t18 t19 t20 t21 H
def F7_s4 (R : Caller) (lim n : Nat) (K : AVal → Heap → Prop) (rec0 : AVal → AVal → AVal → Heap → Prop) (rec4 : AVal → AVal → AVal → AVal → AVal → AVal → Heap → Prop) (t0 t3 t4 t14 t15 t16 : AVal) (H : Heap) : Prop :=
bindP (abin .leq t16 t4) fun v1150 =>
bindP (boolOf v1150) fun b1151 =>
(b1151 = true → (bindP (aindexAddr none 15 t0 t16) fun v1153 =>
bindP (faddrO 3 v1153) fun v1154 =>
bindP (aload H (some 8) v1154) fun v1155 =>
bind2 (R lim (.fn 28) [t3, v1155] H) fun v1156 H1157 =>
bindP (extO 0 v1156) fun v1158 =>
bindP (extO 1 v1156) fun v1159 =>
bindP (extO 2 v1156) fun v1160 =>
F7_l6 R lim n K rec0 rec4 n t0 t3 t4 t14 t15 t16 v1158 v1159 v1160 (.bool false) (.int .i64 0) H1157)) ∧
(b1151 = false → (F7_j1 R lim n K rec0 t0 t3 t4 t14 H))
def F7_l4 (R : Caller) (lim n : Nat) (K : AVal → Heap → Prop) (rec0 : AVal → AVal → AVal → Heap → Prop) : Nat → AVal → AVal → AVal → AVal → AVal → AVal → Heap → Prop
  | 0, _, _, _, _, _, _, _ => False
  | m + 1, t0, t3, t4, t14, t15, t16, H => F7_s4 R lim n K rec0 (F7_l4 R lim n K rec0 m) t0 t3 t4 t14 t15 t16 H
def F7_j4 (R : Caller) (lim n : Nat) (K : AVal → Heap → Prop) (rec0 : AVal → AVal → AVal → Heap → Prop) (t0 t3 t4 t8 t9 t10 : AVal) (H : Heap) : Prop :=
bindP (abin .gtr t8 (.int .i64 48)) fun v989 =>
bindP (gd (some (v989, false)) (some t9)) fun v990 =>
bindP (gd (some (v989, false)) (abin .gtr v990 (.int .i64 1536))) fun v991 =>
bindP (pickO v989 (.bool true) v991) fun v992 =>
bindP (gd (some (v992, false)) (some t10)) fun v993 =>
bindP (gd (some (v992, false)) (abin .gtr v993 (.int .i64 200))) fun v994 =>
bindP (pickO v992 (.bool true) v994) fun v995 =>
bindP (boolOf v995) fun b996 =>
(b996 = true → (K (.bool false) H)) ∧
(b996 = false → (bind2 ((fillV [] []).map fun cs => (.sl (some ((H.push (.cells z547173)).next, 0)) 0 (.ex 0), (H.push (.cells z547173)).push (.cells cs))) fun v997 H998 =>
F7_l4 R lim n K rec0 n t0 t3 t4 (.ptr (some (H.next, 0))) v997 (.int .i64 0) H998))
def F7_s2 (R : Caller) (lim n : Nat) (K : AVal → Heap → Prop) (rec0 : AVal → AVal → AVal → Heap → Prop) (rec2 : AVal → AVal → AVal → AVal → AVal → AVal → AVal → Heap → Prop) (t0 t3 t4 t8 t9 t10 t11 : AVal) (H : Heap) : Prop :=
bindP (abin .lss t11 (.int .u8 6)) fun v1267 =>
bindP (boolOf v1267) fun b1268 =>
(b1268 = true → (bind2 (R lim (.fn 26) [t3, t11] H) fun v1269 H1270 =>
bindP (extO 0 v1269) fun v1271 =>
bindP (extO 1 v1269) fun v1272 =>
bindP (astore lim (H1270.push (.cells z547173)) 4 (.ptr (some (H1270.next, 0))) v1271) fun H1273 =>
bindP (gd (some (v1272, true)) (some t11)) fun v1274 =>
bindP (gd (some (v1272, true)) (abin .gtr v1274 (.int .u8 3))) fun v1275 =>
bindP (gd (some (v1272, true)) (some v1275)) fun v1276 =>
bindP (gd (some (v1276, false)) (aload H1273 (some 4) (.ptr (some (H1270.next, 0))))) fun v1277 =>
bind2 (gd2 (some (v1276, false)) H1273 (R lim (.fn 34) [v1277] H1273)) fun v1278 H1279 =>
bindP (gd (some (v1276, false)) (aun .not v1278)) fun v1280 =>
bindP (gd (some (v1272, true)) (pickO v1276 (.bool true) v1280)) fun v1281 =>
bindP (pickO v1272 v1281 (.bool false)) fun v1282 =>
bindP (gd (some (v1282, false)) (some v1272)) fun v1283 =>
bindP (gd (some (v1282, false)) (aun .not v1283)) fun v1284 =>
bindP (gd (some (v1282, false)) (some v1284)) fun v1285 =>
bindP (gd (some (v1285, true)) (aload H1279 (some 4) (.ptr (some (H1270.next, 0))))) fun v1286 =>
bindP (gd (some (v1285, true)) (buildO z547173 [])) fun v1287 =>
bindP (gd (some (v1285, true)) (eqvO true (.cells [(.int .i64), (.int .i64), (.int .i64), (.int .i64)]) v1286 v1287)) fun v1288 =>
bindP (gd (some (v1282, false)) (pickO v1285 v1288 (.bool false))) fun v1289 =>
bindP (pickO v1282 (.bool true) v1289) fun v1290 =>
bindP (boolOf v1290) fun b1291 =>
(b1291 = true → (K (.bool false) H1279)) ∧
(b1291 = false → (bindP (faddrO 0 (.ptr (some (H1270.next, 0)))) fun v1292 =>
bindP (aload H1279 none v1292) fun v1293 =>
bindP (abin .add t8 v1293) fun v1294 =>
bindP (faddrO 1 (.ptr (some (H1270.next, 0)))) fun v1295 =>
bindP (aload H1279 none v1295) fun v1296 =>
bindP (abin .add t9 v1296) fun v1297 =>
bindP (faddrO 2 (.ptr (some (H1270.next, 0)))) fun v1298 =>
bindP (aload H1279 none v1298) fun v1299 =>
bindP (abin .add t10 v1299) fun v1300 =>
bindP (abin .add t11 (.int .u8 1)) fun v1301 =>
rec2 t0 t3 t4 v1294 v1297 v1300 v1301 H1279)))) ∧
(b1268 = false → (F7_j4 R lim n K rec0 t0 t3 t4 t8 t9 t10 H))
def F7_l2 (R : Caller) (lim n : Nat) (K : AVal → Heap → Prop) (rec0 : AVal → AVal → AVal → Heap → Prop) : Nat → AVal → AVal → AVal → AVal → AVal → AVal → AVal → Heap → Prop
  | 0, _, _, _, _, _, _, _, _ => False
  | m + 1, t0, t3, t4, t8, t9, t10, t11, H => F7_s2 R lim n K rec0 (F7_l2 R lim n K rec0 m) t0 t3 t4 t8 t9 t10 t11 H
def F7_s0 (R : Caller) (lim n : Nat) (K : AVal → Heap → Prop) (rec0 : AVal → AVal → AVal → Heap → Prop) (t0 t3 t4 : AVal) (H : Heap) : Prop :=
bindP (alen false t0) fun v657 =>
bindP (abin .lss t4 v657) fun v658 =>
bindP (boolOf v658) fun b659 =>
(b659 = true → (bind2 (R lim (.fn 17) [t3] H) fun v660 H661 =>
bindP (aindexAddr none 15 t0 t4) fun v662 =>
bindP (aload H661 (some 15) v662) fun v663 =>
bind2 (R lim (.fn 21) [t3, v663] H661) fun v664 H665 =>
bindP (extO 0 v664) fun v666 =>
bindP (extO 1 v664) fun v667 =>
bindP (abin .neq v667 (.int .u8 0)) fun v668 =>
bindP (gd (some (v668, true)) (some v666)) fun v669 =>
bind2 (gd2 (some (v668, true)) H665 (R lim (.fn 17) [v669] H665)) fun v670 H671 =>
bindP (gd (some (v668, true)) (some v660)) fun v672 =>
bindP (gd (some (v668, true)) (abin .neq v670 v672)) fun v673 =>
bindP (pickO v668 v673 (.bool false)) fun v674 =>
bindP (boolOf v674) fun b675 =>
(b675 = true → (K (.bool false) H671)) ∧
(b675 = false → (F7_l2 R lim n K rec0 n t0 v666 t4 (.int .i64 0) (.int .i64 0) (.int .i64 0) (.int .u8 0) H671)))) ∧
(b659 = false → (F7_j0 R lim n K H))
def F7_l0 (R : Caller) (lim n : Nat) (K : AVal → Heap → Prop) : Nat → AVal → AVal → AVal → Heap → Prop
  | 0, _, _, _, _ => False
  | m + 1, t0, t3, t4, H => F7_s0 R lim n K (F7_l0 R lim n K m) t0 t3 t4 H
def F7 (R : Caller) (lim n : Nat) (K : AVal → Heap → Prop) (a0 : AVal) (H : Heap) : Prop :=
bindP (alen false a0) fun v1 =>
bindP (abin .gtr v1 (.int .i64 120)) fun v2 =>
bindP (boolOf v2) fun b3 =>
(b3 = true → (bind2 (R lim (.fn 19) [] H) fun v4 H5 =>
K v4 H5)) ∧
(b3 = false → (bind2 (R lim (.fn 20) [] H) fun v6 H7 =>
F7_l0 R lim n K n a0 v6 (.int .i64 0) H7))
def F7_Lp (R : Caller) (lim n : Nat) (K : AVal → Heap → Prop) : Nat → Tm → Heap → Prop
  | 0, T, H => F7_l0 R lim n K n (T 0) (T 3) (T 4) H
  | _, _, _ => False
def F7_Lp0 (R : Caller) (lim n : Nat) (K : AVal → Heap → Prop) (rec0 : AVal → AVal → AVal → Heap → Prop) : Nat → Tm → Heap → Prop
  | 2, T, H => F7_l2 R lim n K rec0 n (T 0) (T 3) (T 4) (T 8) (T 9) (T 10) (T 11) H
  | 4, T, H => F7_l4 R lim n K rec0 n (T 0) (T 3) (T 4) (T 14) (T 15) (T 16) H
  | _, _, _ => False
def F7_Lp2 (R : Caller) (lim n : Nat) (K : AVal → Heap → Prop) (rec0 : AVal → AVal → AVal → Heap → Prop) (rec2 : AVal → AVal → AVal → AVal → AVal → AVal → AVal → Heap → Prop) : Nat → Tm → Heap → Prop
  | _, _, _ => False
def F7_Lp4 (R : Caller) (lim n : Nat) (K : AVal → Heap → Prop) (rec0 : AVal → AVal → AVal → Heap → Prop) (rec4 : AVal → AVal → AVal → AVal → AVal → AVal → Heap → Prop) : Nat → Tm → Heap → Prop
  | 6, T, H => F7_l6 R lim n K rec0 rec4 n (T 0) (T 3) (T 4) (T 14) (T 15) (T 16) (T 17) (T 18) (T 19) (T 20) (T 21) H
  | _, _, _ => False
def F7_Lp6 (R : Caller) (lim n : Nat) (K : AVal → Heap → Prop) (rec0 : AVal → AVal → AVal → Heap → Prop) (rec4 : AVal → AVal → AVal → AVal → AVal → AVal → Heap → Prop) (rec6 : AVal → AVal → AVal → AVal → AVal → AVal → AVal → AVal → AVal → AVal → AVal → Heap → Prop) : Nat → Tm → Heap → Prop
  | _, _, _ => False
def F7_k0 (R : Caller) (lim n : Nat) (K : AVal → Heap → Prop) (rec0 : AVal → AVal → AVal → Heap → Prop) : Kt := fun ex T H => match ex with
  | .norm => rec0 (T 0) (T 3) (T 4) H
  | ex => (kBlk 0 (kSeq (execI R lim n 204 (F7_Lp R lim n K) f7_p1) (retW [(.tmp 2)] K))) ex T H
def F7_k4 (R : Caller) (lim n : Nat) (K : AVal → Heap → Prop) (rec0 : AVal → AVal → AVal → Heap → Prop) (rec4 : AVal → AVal → AVal → AVal → AVal → AVal → Heap → Prop) : Kt := fun ex T H => match ex with
  | .norm => rec4 (T 0) (T 3) (T 4) (T 14) (T 15) (T 16) H
  | ex => (kBlk 4 (kSeq (execI R lim n 204 (F7_Lp0 R lim n K rec0) f7_p3) (kBlk 1 (kSeq (execI R lim n 204 (F7_Lp0 R lim n K rec0) f7_p4) (F7_k0 R lim n K rec0))))) ex T H
def F7_k6 (R : Caller) (lim n : Nat) (K : AVal → Heap → Prop) (rec0 : AVal → AVal → AVal → Heap → Prop) (rec4 : AVal → AVal → AVal → AVal → AVal → AVal → Heap → Prop) (rec6 : AVal → AVal → AVal → AVal → AVal → AVal → AVal → AVal → AVal → AVal → AVal → Heap → Prop) : Kt := fun ex T H => match ex with
  | .norm => rec6 (T 0) (T 3) (T 4) (T 14) (T 15) (T 16) (T 17) (T 18) (T 19) (T 20) (T 21) H
  | ex => (kBlk 6 (kSeq (execI R lim n 204 (F7_Lp4 R lim n K rec0 rec4) f7_p6) (kBlk 5 (kSeq (execI R lim n 204 (F7_Lp4 R lim n K rec0 rec4) f7_p7) (F7_k4 R lim n K rec0 rec4))))) ex T H
theorem F7_s6_eq (R : Caller) (lim n : Nat) (K : AVal → Heap → Prop) (rec0 : AVal → AVal → AVal → Heap → Prop) (rec4 : AVal → AVal → AVal → AVal → AVal → AVal → Heap → Prop) (rec6 : AVal → AVal → AVal → AVal → AVal → AVal → AVal → AVal → AVal → AVal → AVal → Heap → Prop) (T : Tm) (H : Heap) : F7_s6 R lim n K rec0 rec4 rec6 (T 0) (T 3) (T 4) (T 14) (T 15) (T 16) (T 17) (T 18) (T 19) (T 20) (T 21) H = execI R lim n 204 (F7_Lp6 R lim n K rec0 rec4 rec6) f7_p5 T H (F7_k6 R lim n K rec0 rec4 rec6) := by kernel_rfl
theorem F7_l6_ok (R : Caller) (lim n : Nat) (K : AVal → Heap → Prop) (rec0 : AVal → AVal → AVal → Heap → Prop) (rec4 : AVal → AVal → AVal → AVal → AVal → AVal → Heap → Prop) {kw : Kt} (hk : ∀ ex T H, (kBlk 6 (kSeq (execI R lim n 204 (F7_Lp4 R lim n K rec0 rec4) f7_p6) (kBlk 5 (kSeq (execI R lim n 204 (F7_Lp4 R lim n K rec0 rec4) f7_p7) (F7_k4 R lim n K rec0 rec4))))) ex T H → kw ex T H) : ∀ (m : Nat) (T : Tm) (H : Heap), F7_l6 R lim n K rec0 rec4 m (T 0) (T 3) (T 4) (T 14) (T 15) (T 16) (T 17) (T 18) (T 19) (T 20) (T 21) H → loopW (execW R lim n 204 f7_p5) m T H kw
  | 0, _, _, h => False.elim h
  | m + 1, T, H, h => by
    have hb : ∀ ex T H, F7_k6 R lim n K rec0 rec4 (F7_l6 R lim n K rec0 rec4 m) ex T H → (fun ex T H => match ex with | .norm => loopW (execW R lim n 204 f7_p5) m T H kw | ex => kw ex T H : Kt) ex T H := by
      intro ex T H h
      cases ex with
      | norm => exact F7_l6_ok R lim n K rec0 rec4 hk m T H h
      | exit i => exact hk _ _ _ h
      | ret => exact hk _ _ _ h
    have h' : F7_s6 R lim n K rec0 rec4 (F7_l6 R lim n K rec0 rec4 m) (T 0) (T 3) (T 4) (T 14) (T 15) (T 16) (T 17) (T 18) (T 19) (T 20) (T 21) H := h
    rw [F7_s6_eq] at h'
    exact execI_sound f7_p5 T H _ _ (oblig_nl (by kernel_rfl)) hb h'
theorem F7_s4_eq (R : Caller) (lim n : Nat) (K : AVal → Heap → Prop) (rec0 : AVal → AVal → AVal → Heap → Prop) (rec4 : AVal → AVal → AVal → AVal → AVal → AVal → Heap → Prop) (T : Tm) (H : Heap) : F7_s4 R lim n K rec0 rec4 (T 0) (T 3) (T 4) (T 14) (T 15) (T 16) H = execI R lim n 204 (F7_Lp4 R lim n K rec0 rec4) f7_p2 T H (F7_k4 R lim n K rec0 rec4) := by kernel_rfl
theorem F7_l4_ok (R : Caller) (lim n : Nat) (K : AVal → Heap → Prop) (rec0 : AVal → AVal → AVal → Heap → Prop) {kw : Kt} (hk : ∀ ex T H, (kBlk 4 (kSeq (execI R lim n 204 (F7_Lp0 R lim n K rec0) f7_p3) (kBlk 1 (kSeq (execI R lim n 204 (F7_Lp0 R lim n K rec0) f7_p4) (F7_k0 R lim n K rec0))))) ex T H → kw ex T H) : ∀ (m : Nat) (T : Tm) (H : Heap), F7_l4 R lim n K rec0 m (T 0) (T 3) (T 4) (T 14) (T 15) (T 16) H → loopW (execW R lim n 204 f7_p2) m T H kw
  | 0, _, _, h => False.elim h
  | m + 1, T, H, h => by
    have hb : ∀ ex T H, F7_k4 R lim n K rec0 (F7_l4 R lim n K rec0 m) ex T H → (fun ex T H => match ex with | .norm => loopW (execW R lim n 204 f7_p2) m T H kw | ex => kw ex T H : Kt) ex T H := by
      intro ex T H h
      cases ex with
      | norm => exact F7_l4_ok R lim n K rec0 hk m T H h
      | exit i => exact hk _ _ _ h
      | ret => exact hk _ _ _ h
    have h' : F7_s4 R lim n K rec0 (F7_l4 R lim n K rec0 m) (T 0) (T 3) (T 4) (T 14) (T 15) (T 16) H := h
    rw [F7_s4_eq] at h'
    exact execI_sound f7_p2 T H _ _ ⟨(oblig_nl (by kernel_rfl)), ⟨⟨(oblig_nl (by kernel_rfl)), ⟨(oblig_nl (by kernel_rfl)), ⟨⟨(oblig_nl (by kernel_rfl)), (fun T H h => F7_l6_ok R lim n K rec0 (F7_l4 R lim n K rec0 m) (kBlk_mono (kSeqI_sound (oblig_nl (by kernel_rfl)) (kBlk_mono (kSeqI_sound (oblig_nl (by kernel_rfl)) (hb))))) _ T H h)⟩, (oblig_nl (by kernel_rfl))⟩⟩⟩, (oblig_nl (by kernel_rfl))⟩⟩ hb h'
def F7_k2 (R : Caller) (lim n : Nat) (K : AVal → Heap → Prop) (rec0 : AVal → AVal → AVal → Heap → Prop) (rec2 : AVal → AVal → AVal → AVal → AVal → AVal → AVal → Heap → Prop) : Kt := fun ex T H => match ex with
  | .norm => rec2 (T 0) (T 3) (T 4) (T 8) (T 9) (T 10) (T 11) H
  | ex => (kBlk 2 (kSeq (execI R lim n 204 (F7_Lp0 R lim n K rec0) f7_p9) (kBlk 1 (kSeq (execI R lim n 204 (F7_Lp0 R lim n K rec0) f7_p4) (F7_k0 R lim n K rec0))))) ex T H
theorem F7_s2_eq (R : Caller) (lim n : Nat) (K : AVal → Heap → Prop) (rec0 : AVal → AVal → AVal → Heap → Prop) (rec2 : AVal → AVal → AVal → AVal → AVal → AVal → AVal → Heap → Prop) (T : Tm) (H : Heap) : F7_s2 R lim n K rec0 rec2 (T 0) (T 3) (T 4) (T 8) (T 9) (T 10) (T 11) H = execI R lim n 204 (F7_Lp2 R lim n K rec0 rec2) f7_p8 T H (F7_k2 R lim n K rec0 rec2) := by kernel_rfl
theorem F7_l2_ok (R : Caller) (lim n : Nat) (K : AVal → Heap → Prop) (rec0 : AVal → AVal → AVal → Heap → Prop) {kw : Kt} (hk : ∀ ex T H, (kBlk 2 (kSeq (execI R lim n 204 (F7_Lp0 R lim n K rec0) f7_p9) (kBlk 1 (kSeq (execI R lim n 204 (F7_Lp0 R lim n K rec0) f7_p4) (F7_k0 R lim n K rec0))))) ex T H → kw ex T H) : ∀ (m : Nat) (T : Tm) (H : Heap), F7_l2 R lim n K rec0 m (T 0) (T 3) (T 4) (T 8) (T 9) (T 10) (T 11) H → loopW (execW R lim n 204 f7_p8) m T H kw
  | 0, _, _, h => False.elim h
  | m + 1, T, H, h => by
    have hb : ∀ ex T H, F7_k2 R lim n K rec0 (F7_l2 R lim n K rec0 m) ex T H → (fun ex T H => match ex with | .norm => loopW (execW R lim n 204 f7_p8) m T H kw | ex => kw ex T H : Kt) ex T H := by
      intro ex T H h
      cases ex with
      | norm => exact F7_l2_ok R lim n K rec0 hk m T H h
      | exit i => exact hk _ _ _ h
      | ret => exact hk _ _ _ h
    have h' : F7_s2 R lim n K rec0 (F7_l2 R lim n K rec0 m) (T 0) (T 3) (T 4) (T 8) (T 9) (T 10) (T 11) H := h
    rw [F7_s2_eq] at h'
    exact execI_sound f7_p8 T H _ _ (oblig_nl (by kernel_rfl)) hb h'
theorem F7_s0_eq (R : Caller) (lim n : Nat) (K : AVal → Heap → Prop) (rec0 : AVal → AVal → AVal → Heap → Prop) (T : Tm) (H : Heap) : F7_s0 R lim n K rec0 (T 0) (T 3) (T 4) H = execI R lim n 204 (F7_Lp0 R lim n K rec0) f7_p0 T H (F7_k0 R lim n K rec0) := by kernel_rfl
theorem F7_l0_ok (R : Caller) (lim n : Nat) (K : AVal → Heap → Prop) {kw : Kt} (hk : ∀ ex T H, (kBlk 0 (kSeq (execI R lim n 204 (F7_Lp R lim n K) f7_p1) (retW [(.tmp 2)] K))) ex T H → kw ex T H) : ∀ (m : Nat) (T : Tm) (H : Heap), F7_l0 R lim n K m (T 0) (T 3) (T 4) H → loopW (execW R lim n 204 f7_p0) m T H kw
  | 0, _, _, h => False.elim h
  | m + 1, T, H, h => by
    have hb : ∀ ex T H, F7_k0 R lim n K (F7_l0 R lim n K m) ex T H → (fun ex T H => match ex with | .norm => loopW (execW R lim n 204 f7_p0) m T H kw | ex => kw ex T H : Kt) ex T H := by
      intro ex T H h
      cases ex with
      | norm => exact F7_l0_ok R lim n K hk m T H h
      | exit i => exact hk _ _ _ h
      | ret => exact hk _ _ _ h
    have h' : F7_s0 R lim n K (F7_l0 R lim n K m) (T 0) (T 3) (T 4) H := h
    rw [F7_s0_eq] at h'
    exact execI_sound f7_p0 T H _ _ ⟨(oblig_nl (by kernel_rfl)), ⟨⟨(oblig_nl (by kernel_rfl)), ⟨(oblig_nl (by kernel_rfl)), ⟨(oblig_nl (by kernel_rfl)), ⟨(oblig_nl (by kernel_rfl)), ⟨(oblig_nl (by kernel_rfl)), ⟨⟨(oblig_nl (by kernel_rfl)), (fun T H h => F7_l2_ok R lim n K (F7_l0 R lim n K m) (kBlk_mono (kSeqI_sound ⟨(oblig_nl (by kernel_rfl)), ⟨(oblig_nl (by kernel_rfl)), ⟨(oblig_nl (by kernel_rfl)), ⟨⟨(oblig_nl (by kernel_rfl)), (fun T H h => F7_l4_ok R lim n K (F7_l0 R lim n K m) (kBlk_mono (kSeqI_sound (oblig_nl (by kernel_rfl)) (kBlk_mono (kSeqI_sound (oblig_nl (by kernel_rfl)) (hb))))) _ T H h)⟩, (oblig_nl (by kernel_rfl))⟩⟩⟩⟩ (kBlk_mono (kSeqI_sound (oblig_nl (by kernel_rfl)) (hb))))) _ T H h)⟩, ⟨(oblig_nl (by kernel_rfl)), ⟨(oblig_nl (by kernel_rfl)), ⟨(oblig_nl (by kernel_rfl)), ⟨⟨(oblig_nl (by kernel_rfl)), (fun T H h => F7_l4_ok R lim n K (F7_l0 R lim n K m) (kBlk_mono (kSeqI_sound (oblig_nl (by kernel_rfl)) (kBlk_mono (kSeqI_sound (oblig_nl (by kernel_rfl)) (hb))))) _ T H h)⟩, (oblig_nl (by kernel_rfl))⟩⟩⟩⟩⟩⟩⟩⟩⟩⟩, (oblig_nl (by kernel_rfl))⟩⟩ hb h'
theorem F7_eq (R : Caller) (lim n : Nat) (K : AVal → Heap → Prop) (a0 : AVal) (H : Heap) : F7 R lim n K a0 H = execI R lim n 204 (F7_Lp R lim n K) f7.body (argT [a0]) H (retW [(.tmp 2)] K) := by kernel_rfl
theorem F7_ob (R : Caller) (lim n : Nat) (K : AVal → Heap → Prop) : Oblig R lim n 204 (F7_Lp R lim n K) f7.body (retW [(.tmp 2)] K) := ⟨(oblig_nl (by kernel_rfl)), ⟨(oblig_nl (by kernel_rfl)), ⟨(oblig_nl (by kernel_rfl)), ⟨⟨(oblig_nl (by kernel_rfl)), (fun T H h => F7_l0_ok R lim n K (kBlk_mono (kSeqI_sound (oblig_nl (by kernel_rfl)) (fun _ _ _ h => h))) _ T H h)⟩, (oblig_nl (by kernel_rfl))⟩⟩⟩⟩
theorem F7_run {ap : FuncId → Option AFn} (hf : ap 7 = some (.code f7)) {n lim : Nat} {K : AVal → Heap → Prop} {a0 : AVal} {H : Heap} (h : F7 (Ahs.runT ap n) lim n K a0 H) : ∃ v H', Ahs.runT ap (n + 1) lim (.fn 7) [a0] H = some (v, H') ∧ K v H' := by
  rw [F7_eq] at h
  exact run_of_W hf (by kernel_rfl) (by kernel_rfl) (execI_sound f7.body _ _ _ _ (F7_ob _ _ _ K) (fun _ _ _ h => h) h)
def F15_j0 (R : Caller) (lim n : Nat) (K : AVal → Heap → Prop) (t0 t4 : AVal) (H : Heap) : Prop :=
bind2 (R lim (.fn 17) [t4] H) fun v98 H99 =>
bindP (abin .neq v98 t0) fun v100 =>
bindP (boolOf v100) fun b101 =>
(b101 = true → (K (.tup [(.ptr none), (.bool false)]) H99)) ∧
(b101 = false → (K (.tup [t4, (.bool true)]) H99))
def F15_s2 (R : Caller) (lim n : Nat) (K : AVal → Heap → Prop) (rec2 : AVal → AVal → AVal → AVal → Heap → Prop) (t0 t4 t5 t9 : AVal) (H : Heap) : Prop :=
bindP (abin .gtr t9 (.int .u64 0)) fun v102 =>
bindP (gd (some (v102, true)) (some t5)) fun v103 =>
bindP (gd (some (v102, true)) (alen true v103)) fun v104 =>
bindP (gd (some (v102, true)) (abin .geq v104 (.int .i64 10))) fun v105 =>
bindP (pickO v102 v105 (.bool false)) fun v106 =>
bindP (boolOf v106) fun b107 =>
(b107 = true → (bindP (asliceArr 8 1 (.ptr (some (H.next, 0))) none none none) fun v108 =>
bind2 (acopy lim (H.push (.cells zdff0c5)) 1 v108 t5) fun v109 H110 =>
bindP (aindexStr t5 v109) fun v111 =>
bindP (aload H110 (some 8) (.ptr (some (H.next, 0)))) fun v112 =>
bindP (abin .add v109 (.int .i64 1)) fun v113 =>
bindP (aindexStr t5 v113) fun v114 =>
bind2 (R lim (.fn 23) [t4, v111, v112, v114] H110) fun v115 H116 =>
bindP (asliceStr t5 (some (.int .i64 10)) none) fun v117 =>
bindP (abin .sub t9 (.int .u64 1)) fun v118 =>
rec2 t0 t4 v117 v118 H116)) ∧
(b107 = false → (F15_j0 R lim n K t0 t4 H))
def F15_l2 (R : Caller) (lim n : Nat) (K : AVal → Heap → Prop) : Nat → AVal → AVal → AVal → AVal → Heap → Prop
  | 0, _, _, _, _, _ => False
  | m + 1, t0, t4, t5, t9, H => F15_s2 R lim n K (F15_l2 R lim n K m) t0 t4 t5 t9 H
def F15_j1 (R : Caller) (lim n : Nat) (K : AVal → Heap → Prop) (t0 t4 t5 : AVal) (H : Heap) : Prop :=
bind2 (R lim (.fn 59) [t5] H) fun v71 H72 =>
bindP (extO 0 v71) fun v73 =>
bindP (extO 1 v71) fun v74 =>
bindP (extO 2 v71) fun v75 =>
bindP (asliceStr t5 (some v74) none) fun v76 =>
F15_l2 R lim n K n t0 t4 v76 v73 H72
def F15_j2 (R : Caller) (lim n : Nat) (K : AVal → Heap → Prop) (rec0 : AVal → AVal → AVal → AVal → Heap → Prop) (t0 t4 t5 t16 : AVal) (H : Heap) : Prop :=
bindP (abin .add t16 (.int .u8 1)) fun v121 =>
rec0 t0 t4 t5 v121 H
def F15_s0 (R : Caller) (lim n : Nat) (K : AVal → Heap → Prop) (rec0 : AVal → AVal → AVal → AVal → Heap → Prop) (t0 t4 t5 t16 : AVal) (H : Heap) : Prop :=
bindP (abin .lss t16 (.int .u8 4)) fun v119 =>
bindP (boolOf v119) fun b120 =>
(b120 = true → (bindP (abin .eql t5 (.str [])) fun v122 =>
bindP (boolOf v122) fun b123 =>
(b123 = true → (K (.tup [(.ptr none), (.bool false)]) H)) ∧
(b123 = false → (bindP (aindexStr t5 (.int .i64 0)) fun v124 =>
bindP (abin .eql v124 (.int .u8 1)) fun v125 =>
bindP (asliceStr t5 (some (.int .i64 1)) none) fun v126 =>
bindP (aun .not v125) fun v127 =>
bindP (boolOf v127) fun b128 =>
(b128 = true → (F15_j2 R lim n K rec0 t0 t4 v126 t16 H)) ∧
(b128 = false → (bind2 (R lim (.fn 58) [v126] (H.push (.cells z547173))) fun v129 H130 =>
bindP (extO 0 v129) fun v131 =>
bindP (extO 1 v129) fun v132 =>
bindP (astore lim H130 4 (.ptr (some (H.next, 0))) v131) fun H133 =>
bindP (aload H133 (some 4) (.ptr (some (H.next, 0)))) fun v134 =>
bind2 (R lim (.fn 22) [t4, t16, v134] H133) fun v135 H136 =>
bindP (abin .neq v135 (.int .u8 0)) fun v137 =>
bindP (boolOf v137) fun b138 =>
(b138 = true → (K (.tup [(.ptr none), (.bool false)]) H136)) ∧
(b138 = false → (F15_j2 R lim n K rec0 t0 t4 v132 t16 H136)))))))) ∧
(b120 = false → (F15_j1 R lim n K t0 t4 t5 H))
def F15_l0 (R : Caller) (lim n : Nat) (K : AVal → Heap → Prop) : Nat → AVal → AVal → AVal → AVal → Heap → Prop
  | 0, _, _, _, _, _ => False
  | m + 1, t0, t4, t5, t16, H => F15_s0 R lim n K (F15_l0 R lim n K m) t0 t4 t5 t16 H
def F15 (R : Caller) (lim n : Nat) (K : AVal → Heap → Prop) (a0 : AVal) (H : Heap) : Prop :=
bind2 (R lim (.fn 20) [] H) fun v1 H2 =>
F15_l0 R lim n K n a0 v1 a0 (.int .u8 0) H2
def F15_Lp (R : Caller) (lim n : Nat) (K : AVal → Heap → Prop) : Nat → Tm → Heap → Prop
  | 0, T, H => F15_l0 R lim n K n (T 0) (T 4) (T 5) (T 16) H
  | 2, T, H => F15_l2 R lim n K n (T 0) (T 4) (T 5) (T 9) H
  | _, _, _ => False
def F15_Lp0 (R : Caller) (lim n : Nat) (K : AVal → Heap → Prop) (rec0 : AVal → AVal → AVal → AVal → Heap → Prop) : Nat → Tm → Heap → Prop
  | _, _, _ => False
def F15_Lp2 (R : Caller) (lim n : Nat) (K : AVal → Heap → Prop) (rec2 : AVal → AVal → AVal → AVal → Heap → Prop) : Nat → Tm → Heap → Prop
  | _, _, _ => False
def F15_k2 (R : Caller) (lim n : Nat) (K : AVal → Heap → Prop) (rec2 : AVal → AVal → AVal → AVal → Heap → Prop) : Kt := fun ex T H => match ex with
  | .norm => rec2 (T 0) (T 4) (T 5) (T 9) H
  | ex => (kBlk 2 (kSeq (execI R lim n 77 (F15_Lp R lim n K) f15_p1) (retW [(.tmp 2), (.tmp 3)] K))) ex T H
theorem F15_s2_eq (R : Caller) (lim n : Nat) (K : AVal → Heap → Prop) (rec2 : AVal → AVal → AVal → AVal → Heap → Prop) (T : Tm) (H : Heap) : F15_s2 R lim n K rec2 (T 0) (T 4) (T 5) (T 9) H = execI R lim n 77 (F15_Lp2 R lim n K rec2) f15_p0 T H (F15_k2 R lim n K rec2) := by kernel_rfl
theorem F15_l2_ok (R : Caller) (lim n : Nat) (K : AVal → Heap → Prop) {kw : Kt} (hk : ∀ ex T H, (kBlk 2 (kSeq (execI R lim n 77 (F15_Lp R lim n K) f15_p1) (retW [(.tmp 2), (.tmp 3)] K))) ex T H → kw ex T H) : ∀ (m : Nat) (T : Tm) (H : Heap), F15_l2 R lim n K m (T 0) (T 4) (T 5) (T 9) H → loopW (execW R lim n 77 f15_p0) m T H kw
  | 0, _, _, h => False.elim h
  | m + 1, T, H, h => by
    have hb : ∀ ex T H, F15_k2 R lim n K (F15_l2 R lim n K m) ex T H → (fun ex T H => match ex with | .norm => loopW (execW R lim n 77 f15_p0) m T H kw | ex => kw ex T H : Kt) ex T H := by
      intro ex T H h
      cases ex with
      | norm => exact F15_l2_ok R lim n K hk m T H h
      | exit i => exact hk _ _ _ h
      | ret => exact hk _ _ _ h
    have h' : F15_s2 R lim n K (F15_l2 R lim n K m) (T 0) (T 4) (T 5) (T 9) H := h
    rw [F15_s2_eq] at h'
    exact execI_sound f15_p0 T H _ _ (oblig_nl (by kernel_rfl)) hb h'
def F15_k0 (R : Caller) (lim n : Nat) (K : AVal → Heap → Prop) (rec0 : AVal → AVal → AVal → AVal → Heap → Prop) : Kt := fun ex T H => match ex with
  | .norm => rec0 (T 0) (T 4) (T 5) (T 16) H
  | ex => (kBlk 0 (kSeq (execI R lim n 77 (F15_Lp R lim n K) f15_p3) (retW [(.tmp 2), (.tmp 3)] K))) ex T H
theorem F15_s0_eq (R : Caller) (lim n : Nat) (K : AVal → Heap → Prop) (rec0 : AVal → AVal → AVal → AVal → Heap → Prop) (T : Tm) (H : Heap) : F15_s0 R lim n K rec0 (T 0) (T 4) (T 5) (T 16) H = execI R lim n 77 (F15_Lp0 R lim n K rec0) f15_p2 T H (F15_k0 R lim n K rec0) := by kernel_rfl
theorem F15_l0_ok (R : Caller) (lim n : Nat) (K : AVal → Heap → Prop) {kw : Kt} (hk : ∀ ex T H, (kBlk 0 (kSeq (execI R lim n 77 (F15_Lp R lim n K) f15_p3) (retW [(.tmp 2), (.tmp 3)] K))) ex T H → kw ex T H) : ∀ (m : Nat) (T : Tm) (H : Heap), F15_l0 R lim n K m (T 0) (T 4) (T 5) (T 16) H → loopW (execW R lim n 77 f15_p2) m T H kw
  | 0, _, _, h => False.elim h
  | m + 1, T, H, h => by
    have hb : ∀ ex T H, F15_k0 R lim n K (F15_l0 R lim n K m) ex T H → (fun ex T H => match ex with | .norm => loopW (execW R lim n 77 f15_p2) m T H kw | ex => kw ex T H : Kt) ex T H := by
      intro ex T H h
      cases ex with
      | norm => exact F15_l0_ok R lim n K hk m T H h
      | exit i => exact hk _ _ _ h
      | ret => exact hk _ _ _ h
    have h' : F15_s0 R lim n K (F15_l0 R lim n K m) (T 0) (T 4) (T 5) (T 16) H := h
    rw [F15_s0_eq] at h'
    exact execI_sound f15_p2 T H _ _ (oblig_nl (by kernel_rfl)) hb h'
theorem F15_eq (R : Caller) (lim n : Nat) (K : AVal → Heap → Prop) (a0 : AVal) (H : Heap) : F15 R lim n K a0 H = execI R lim n 77 (F15_Lp R lim n K) f15.body (argT [a0]) H (retW [(.tmp 2), (.tmp 3)] K) := by kernel_rfl
theorem F15_ob (R : Caller) (lim n : Nat) (K : AVal → Heap → Prop) : Oblig R lim n 77 (F15_Lp R lim n K) f15.body (retW [(.tmp 2), (.tmp 3)] K) := ⟨(oblig_nl (by kernel_rfl)), ⟨(oblig_nl (by kernel_rfl)), ⟨(oblig_nl (by kernel_rfl)), ⟨⟨(oblig_nl (by kernel_rfl)), (fun T H h => F15_l0_ok R lim n K (kBlk_mono (kSeqI_sound ⟨(oblig_nl (by kernel_rfl)), ⟨(oblig_nl (by kernel_rfl)), ⟨(fun T H h => F15_l2_ok R lim n K (kBlk_mono (kSeqI_sound (oblig_nl (by kernel_rfl)) (fun _ _ _ h => h))) _ T H h), (oblig_nl (by kernel_rfl))⟩⟩⟩ (fun _ _ _ h => h))) _ T H h)⟩, ⟨(oblig_nl (by kernel_rfl)), ⟨(oblig_nl (by kernel_rfl)), ⟨(fun T H h => F15_l2_ok R lim n K (kBlk_mono (kSeqI_sound (oblig_nl (by kernel_rfl)) (fun _ _ _ h => h))) _ T H h), (oblig_nl (by kernel_rfl))⟩⟩⟩⟩⟩⟩⟩
theorem F15_run {ap : FuncId → Option AFn} (hf : ap 15 = some (.code f15)) {n lim : Nat} {K : AVal → Heap → Prop} {a0 : AVal} {H : Heap} (h : F15 (Ahs.runT ap n) lim n K a0 H) : ∃ v H', Ahs.runT ap (n + 1) lim (.fn 15) [a0] H = some (v, H') ∧ K v H' := by
  rw [F15_eq] at h
  exact run_of_W hf (by kernel_rfl) (by kernel_rfl) (execI_sound f15.body _ _ _ _ (F15_ob _ _ _ K) (fun _ _ _ h => h) h)
def F17_j0 (R : Caller) (lim n : Nat) (K : AVal → Heap → Prop) (t3 : AVal) (H : Heap) : Prop :=
K t3 H
def F17_s2 (R : Caller) (lim n : Nat) (K : AVal → Heap → Prop) (rec2 : AVal → AVal → AVal → AVal → AVal → Heap → Prop) (t0 t3 t60 t61 t62 : AVal) (H : Heap) : Prop :=
bindP (abin .lss t62 t61) fun v147 =>
bindP (boolOf v147) fun b148 =>
(b148 = true → (bindP (aindexAddr none 8 t60 t62) fun v149 =>
bindP (aload H (some 8) v149) fun v150 =>
bindP (astore lim (H.push (.cells zdff0c5)) 8 (.ptr (some (H.next, 0))) v150) fun H151 =>
bindP (asliceArr 8 1 (.ptr (some (H.next, 0))) none none none) fun v152 =>
bindP (abytesToStr H151 v152) fun v153 =>
bindP (nilO t0) fun v154 =>
bindP (faddrO 16 v154) fun v155 =>
bindP (aload H151 none v155) fun v156 =>
bindP (aload H151 (some 8) (.ptr (some (H.next, 0)))) fun v157 =>
bindP (alookup H151 true [(.int .u8), (.int .u8), (.int .u8), (.int .u8), (.int .u8), (.int .u8), (.int .u8), (.int .u8)] (.agg [(.int .u8 0), (.int .u8 0)]) false v156 v157) fun v158 =>
bindP (fieldO 0 none v158) fun v159 =>
bindP (nilO t0) fun v160 =>
bindP (faddrO 16 v160) fun v161 =>
bindP (aload H151 none v161) fun v162 =>
bindP (aload H151 (some 8) (.ptr (some (H.next, 0)))) fun v163 =>
bindP (alookup H151 true [(.int .u8), (.int .u8), (.int .u8), (.int .u8), (.int .u8), (.int .u8), (.int .u8), (.int .u8)] (.agg [(.int .u8 0), (.int .u8 0)]) false v162 v163) fun v164 =>
bindP (fieldO 1 none v164) fun v165 =>
bind2 ((fillV [(.int .u8 0), (.int .u8 0)] [(0, 1, v159), (1, 1, v165)]).map fun cs => (.sl (some (H151.next, 0)) 2 (.ex 2), H151.push (.cells cs))) fun v166 H167 =>
bindP (abytesToStr H167 v166) fun v168 =>
bindP (abin .add v153 v168) fun v169 =>
bindP (abin .add t3 v169) fun v170 =>
bindP (abin .add t62 (.int .i64 1)) fun v171 =>
rec2 t0 v170 t60 t61 v171 H167)) ∧
(b148 = false → (F17_j0 R lim n K t3 H))
def F17_l2 (R : Caller) (lim n : Nat) (K : AVal → Heap → Prop) : Nat → AVal → AVal → AVal → AVal → AVal → Heap → Prop
  | 0, _, _, _, _, _, _ => False
  | m + 1, t0, t3, t60, t61, t62, H => F17_s2 R lim n K (F17_l2 R lim n K m) t0 t3 t60 t61 t62 H
def F17_j1 (R : Caller) (lim n : Nat) (K : AVal → Heap → Prop) (t0 t3 : AVal) (H : Heap) : Prop :=
bindP (nilO t0) fun v104 =>
bindP (faddrO 16 v104) fun v105 =>
bindP (aload H none v105) fun v106 =>
bindP (amapLen H v106) fun v107 =>
bindP (convO .u64 v107) fun v108 =>
bind2 ((fillV [(.int .u64 0)] [(0, 1, v108)]).map fun cs => (.sl (some (H.next, 0)) 1 (.ex 1), H.push (.cells cs))) fun v109 H110 =>
bind2 (R lim (.fn 66) [v109] H110) fun v111 H112 =>
bindP (abin .add t3 v111) fun v113 =>
bindP (nilO t0) fun v114 =>
bindP (faddrO 16 v114) fun v115 =>
bindP (aload H112 none v115) fun v116 =>
bind2 (R lim (.fn 68) [v116] H112) fun v117 H118 =>
bind2 (R lim (.fn 67) [v117, (.fn 69 [] [])] H118) fun v119 H120 =>
bindP (alen false v119) fun v121 =>
F17_l2 R lim n K n t0 v113 v119 v121 (.int .i64 0) H120
def F17_j2 (R : Caller) (lim n : Nat) (K : AVal → Heap → Prop) (rec0 : AVal → AVal → AVal → AVal → Heap → Prop) (t0 t3 t14 t15 : AVal) (H : Heap) : Prop :=
bindP (abin .add t15 (.int .i64 1)) fun v174 =>
rec0 t0 t3 t14 v174 H
def F17_s0 (R : Caller) (lim n : Nat) (K : AVal → Heap → Prop) (rec0 : AVal → AVal → AVal → AVal → Heap → Prop) (t0 t3 t14 t15 : AVal) (H : Heap) : Prop :=
bindP (abin .lss t15 (.int .i64 4)) fun v172 =>
bindP (boolOf v172) fun b173 =>
(b173 = true → (bindP (aindex 4 4 true t14 t15) fun v175 =>
bindP (astore lim (H.push (.cells z547173)) 4 (.ptr (some (H.next, 0))) v175) fun H176 =>
bindP (convO .u8 t15) fun v177 =>
bind2 (R lim (.fn 65) [t0, v177] H176) fun v178 H179 =>
bindP (aun .not v178) fun v180 =>
bindP (boolOf v180) fun b181 =>
(b181 = true → (bindP (abin .add t3 (.str [0])) fun v182 =>
F17_j2 R lim n K rec0 t0 v182 t14 t15 H179)) ∧
(b181 = false → (bindP (faddrO 0 (.ptr (some (H.next, 0)))) fun v183 =>
bindP (aload H179 none v183) fun v184 =>
bindP (convO .u64 v184) fun v185 =>
bindP (faddrO 1 (.ptr (some (H.next, 0)))) fun v186 =>
bindP (aload H179 none v186) fun v187 =>
bindP (convO .u64 v187) fun v188 =>
bindP (faddrO 2 (.ptr (some (H.next, 0)))) fun v189 =>
bindP (aload H179 none v189) fun v190 =>
bindP (convO .u64 v190) fun v191 =>
bindP (faddrO 3 (.ptr (some (H.next, 0)))) fun v192 =>
bindP (aload H179 none v192) fun v193 =>
bindP (convO .u64 v193) fun v194 =>
bind2 ((fillV z70c9c7 [(0, 1, v185), (1, 1, v188), (2, 1, v191), (3, 1, v194)]).map fun cs => (.sl (some (H179.next, 0)) 4 (.ex 4), H179.push (.cells cs))) fun v195 H196 =>
bind2 (R lim (.fn 66) [v195] H196) fun v197 H198 =>
bindP (abin .add (.str [1]) v197) fun v199 =>
bindP (abin .add t3 v199) fun v200 =>
F17_j2 R lim n K rec0 t0 v200 t14 t15 H198)))) ∧
(b173 = false → (F17_j1 R lim n K t0 t3 H))
def F17_l0 (R : Caller) (lim n : Nat) (K : AVal → Heap → Prop) : Nat → AVal → AVal → AVal → AVal → Heap → Prop
  | 0, _, _, _, _, _ => False
  | m + 1, t0, t3, t14, t15, H => F17_s0 R lim n K (F17_l0 R lim n K m) t0 t3 t14 t15 H
def F17 (R : Caller) (lim n : Nat) (K : AVal → Heap → Prop) (a0 : AVal) (H : Heap) : Prop :=
bind2 (R lim (.fn 64) [a0] H) fun v1 H2 =>
bindP (boolOf v1) fun b3 =>
(b3 = true → (K (.str []) H2)) ∧
(b3 = false → (bindP (nilO a0) fun v4 =>
bindP (faddrO 0 v4) fun v5 =>
bindP (aload H2 (some 16) v5) fun v6 =>
F17_l0 R lim n K n a0 (.str []) v6 (.int .i64 0) H2))
def F17_Lp (R : Caller) (lim n : Nat) (K : AVal → Heap → Prop) : Nat → Tm → Heap → Prop
  | 0, T, H => F17_l0 R lim n K n (T 0) (T 3) (T 14) (T 15) H
  | 2, T, H => F17_l2 R lim n K n (T 0) (T 3) (T 60) (T 61) (T 62) H
  | _, _, _ => False
def F17_Lp0 (R : Caller) (lim n : Nat) (K : AVal → Heap → Prop) (rec0 : AVal → AVal → AVal → AVal → Heap → Prop) : Nat → Tm → Heap → Prop
  | _, _, _ => False
def F17_Lp2 (R : Caller) (lim n : Nat) (K : AVal → Heap → Prop) (rec2 : AVal → AVal → AVal → AVal → AVal → Heap → Prop) : Nat → Tm → Heap → Prop
  | _, _, _ => False
def F17_k2 (R : Caller) (lim n : Nat) (K : AVal → Heap → Prop) (rec2 : AVal → AVal → AVal → AVal → AVal → Heap → Prop) : Kt := fun ex T H => match ex with
  | .norm => rec2 (T 0) (T 3) (T 60) (T 61) (T 62) H
  | ex => (kBlk 2 (kSeq (execI R lim n 89 (F17_Lp R lim n K) f17_p1) (retW [(.tmp 2)] K))) ex T H
theorem F17_s2_eq (R : Caller) (lim n : Nat) (K : AVal → Heap → Prop) (rec2 : AVal → AVal → AVal → AVal → AVal → Heap → Prop) (T : Tm) (H : Heap) : F17_s2 R lim n K rec2 (T 0) (T 3) (T 60) (T 61) (T 62) H = execI R lim n 89 (F17_Lp2 R lim n K rec2) f17_p0 T H (F17_k2 R lim n K rec2) := by kernel_rfl
theorem F17_l2_ok (R : Caller) (lim n : Nat) (K : AVal → Heap → Prop) {kw : Kt} (hk : ∀ ex T H, (kBlk 2 (kSeq (execI R lim n 89 (F17_Lp R lim n K) f17_p1) (retW [(.tmp 2)] K))) ex T H → kw ex T H) : ∀ (m : Nat) (T : Tm) (H : Heap), F17_l2 R lim n K m (T 0) (T 3) (T 60) (T 61) (T 62) H → loopW (execW R lim n 89 f17_p0) m T H kw
  | 0, _, _, h => False.elim h
  | m + 1, T, H, h => by
    have hb : ∀ ex T H, F17_k2 R lim n K (F17_l2 R lim n K m) ex T H → (fun ex T H => match ex with | .norm => loopW (execW R lim n 89 f17_p0) m T H kw | ex => kw ex T H : Kt) ex T H := by
      intro ex T H h
      cases ex with
      | norm => exact F17_l2_ok R lim n K hk m T H h
      | exit i => exact hk _ _ _ h
      | ret => exact hk _ _ _ h
    have h' : F17_s2 R lim n K (F17_l2 R lim n K m) (T 0) (T 3) (T 60) (T 61) (T 62) H := h
    rw [F17_s2_eq] at h'
    exact execI_sound f17_p0 T H _ _ (oblig_nl (by kernel_rfl)) hb h'
def F17_k0 (R : Caller) (lim n : Nat) (K : AVal → Heap → Prop) (rec0 : AVal → AVal → AVal → AVal → Heap → Prop) : Kt := fun ex T H => match ex with
  | .norm => rec0 (T 0) (T 3) (T 14) (T 15) H
  | ex => (kBlk 0 (kSeq (execI R lim n 89 (F17_Lp R lim n K) f17_p3) (retW [(.tmp 2)] K))) ex T H
theorem F17_s0_eq (R : Caller) (lim n : Nat) (K : AVal → Heap → Prop) (rec0 : AVal → AVal → AVal → AVal → Heap → Prop) (T : Tm) (H : Heap) : F17_s0 R lim n K rec0 (T 0) (T 3) (T 14) (T 15) H = execI R lim n 89 (F17_Lp0 R lim n K rec0) f17_p2 T H (F17_k0 R lim n K rec0) := by kernel_rfl
theorem F17_l0_ok (R : Caller) (lim n : Nat) (K : AVal → Heap → Prop) {kw : Kt} (hk : ∀ ex T H, (kBlk 0 (kSeq (execI R lim n 89 (F17_Lp R lim n K) f17_p3) (retW [(.tmp 2)] K))) ex T H → kw ex T H) : ∀ (m : Nat) (T : Tm) (H : Heap), F17_l0 R lim n K m (T 0) (T 3) (T 14) (T 15) H → loopW (execW R lim n 89 f17_p2) m T H kw
  | 0, _, _, h => False.elim h
  | m + 1, T, H, h => by
    have hb : ∀ ex T H, F17_k0 R lim n K (F17_l0 R lim n K m) ex T H → (fun ex T H => match ex with | .norm => loopW (execW R lim n 89 f17_p2) m T H kw | ex => kw ex T H : Kt) ex T H := by
      intro ex T H h
      cases ex with
      | norm => exact F17_l0_ok R lim n K hk m T H h
      | exit i => exact hk _ _ _ h
      | ret => exact hk _ _ _ h
    have h' : F17_s0 R lim n K (F17_l0 R lim n K m) (T 0) (T 3) (T 14) (T 15) H := h
    rw [F17_s0_eq] at h'
    exact execI_sound f17_p2 T H _ _ (oblig_nl (by kernel_rfl)) hb h'
theorem F17_eq (R : Caller) (lim n : Nat) (K : AVal → Heap → Prop) (a0 : AVal) (H : Heap) : F17 R lim n K a0 H = execI R lim n 89 (F17_Lp R lim n K) f17.body (argT [a0]) H (retW [(.tmp 2)] K) := by kernel_rfl
theorem F17_ob (R : Caller) (lim n : Nat) (K : AVal → Heap → Prop) : Oblig R lim n 89 (F17_Lp R lim n K) f17.body (retW [(.tmp 2)] K) := ⟨(oblig_nl (by kernel_rfl)), ⟨(oblig_nl (by kernel_rfl)), ⟨(oblig_nl (by kernel_rfl)), ⟨⟨(oblig_nl (by kernel_rfl)), (fun T H h => F17_l0_ok R lim n K (kBlk_mono (kSeqI_sound ⟨(oblig_nl (by kernel_rfl)), ⟨(oblig_nl (by kernel_rfl)), ⟨⟨(oblig_nl (by kernel_rfl)), (fun T H h => F17_l2_ok R lim n K (kBlk_mono (kSeqI_sound (oblig_nl (by kernel_rfl)) (fun _ _ _ h => h))) _ T H h)⟩, (oblig_nl (by kernel_rfl))⟩⟩⟩ (fun _ _ _ h => h))) _ T H h)⟩, ⟨(oblig_nl (by kernel_rfl)), ⟨(oblig_nl (by kernel_rfl)), ⟨⟨(oblig_nl (by kernel_rfl)), (fun T H h => F17_l2_ok R lim n K (kBlk_mono (kSeqI_sound (oblig_nl (by kernel_rfl)) (fun _ _ _ h => h))) _ T H h)⟩, (oblig_nl (by kernel_rfl))⟩⟩⟩⟩⟩⟩⟩
theorem F17_run {ap : FuncId → Option AFn} (hf : ap 17 = some (.code f17)) {n lim : Nat} {K : AVal → Heap → Prop} {a0 : AVal} {H : Heap} (h : F17 (Ahs.runT ap n) lim n K a0 H) : ∃ v H', Ahs.runT ap (n + 1) lim (.fn 17) [a0] H = some (v, H') ∧ K v H' := by
  rw [F17_eq] at h
  exact run_of_W hf (by kernel_rfl) (by kernel_rfl) (execI_sound f17.body _ _ _ _ (F17_ob _ _ _ K) (fun _ _ _ h => h) h)
def F19 (R : Caller) (lim n : Nat) (K : AVal → Heap → Prop) (H : Heap) : Prop :=
bind2 (R lim (.fn 20) [] H) fun v1 H2 =>
bindP (buildO z547173 [(0, 1, (.int .i64 16)), (1, 1, (.int .i64 512)), (2, 1, (.int .i64 1)), (3, 1, (.int .i64 9))]) fun v3 =>
bind2 (R lim (.fn 22) [v1, (.int .u8 1), v3] H2) fun v4 H5 =>
bind2 (R lim (.fn 24) [(.int .u8 97)] H5) fun v6 H7 =>
bind2 (R lim (.fn 23) [v1, (.int .u8 1), v6, (.int .u8 2)] H7) fun v8 H9 =>
bind2 (R lim (.fn 24) [(.int .u8 97)] H9) fun v10 H11 =>
bind2 (R lim (.fn 28) [v1, v10] H11) fun v12 H13 =>
bindP (extO 0 v12) fun v14 =>
bindP (extO 1 v12) fun v15 =>
bindP (extO 2 v12) fun v16 =>
bindP (abin .eql v4 (.int .u8 0)) fun v17 =>
bindP (gd (some (v17, true)) (some v8)) fun v18 =>
bindP (gd (some (v17, true)) (abin .eql v18 (.int .u8 0))) fun v19 =>
bindP (pickO v17 v19 (.bool false)) fun v20 =>
bindP (gd (some (v20, true)) (some v14)) fun v21 =>
bindP (gd (some (v20, true)) (abin .eql v21 (.int .u8 1))) fun v22 =>
bindP (pickO v20 v22 (.bool false)) fun v23 =>
bindP (gd (some (v23, true)) (some v15)) fun v24 =>
bindP (gd (some (v23, true)) (abin .eql v24 (.int .u8 2))) fun v25 =>
bindP (pickO v23 v25 (.bool false)) fun v26 =>
bindP (gd (some (v26, true)) (some v16)) fun v27 =>
bindP (pickO v26 v27 (.bool false)) fun v28 =>
bindP (gd (some (v28, true)) (some v1)) fun v29 =>
bind2 (gd2 (some (v28, true)) H13 (R lim (.fn 17) [v29] H13)) fun v30 H31 =>
bindP (gd (some (v28, true)) (abin .eql v30 (.str [0, 1, 16, 132, 0, 1, 9, 0, 0, 1, 97, 97, 97, 97, 97, 97, 97, 97, 1, 2]))) fun v32 =>
bindP (pickO v28 v32 (.bool false)) fun v33 =>
K v33 H31
def F19_Lp (R : Caller) (lim n : Nat) (K : AVal → Heap → Prop) : Nat → Tm → Heap → Prop
  | _, _, _ => False
theorem F19_eq (R : Caller) (lim n : Nat) (K : AVal → Heap → Prop) (H : Heap) : F19 R lim n K  H = execI R lim n 43 (F19_Lp R lim n K) f19.body (argT []) H (retW [(.tmp 0)] K) := by kernel_rfl
theorem F19_ob (R : Caller) (lim n : Nat) (K : AVal → Heap → Prop) : Oblig R lim n 43 (F19_Lp R lim n K) f19.body (retW [(.tmp 0)] K) := (oblig_nl (by kernel_rfl))
theorem F19_run {ap : FuncId → Option AFn} (hf : ap 19 = some (.code f19)) {n lim : Nat} {K : AVal → Heap → Prop} {H : Heap} (h : F19 (Ahs.runT ap n) lim n K  H) : ∃ v H', Ahs.runT ap (n + 1) lim (.fn 19) [] H = some (v, H') ∧ K v H' := by
  rw [F19_eq] at h
  exact run_of_W hf (by kernel_rfl) (by kernel_rfl) (execI_sound f19.body _ _ _ _ (F19_ob _ _ _ K) (fun _ _ _ h => h) h)
def F20 (R : Caller) (lim n : Nat) (K : AVal → Heap → Prop) (H : Heap) : Prop :=
bind2 (if hintOK none then some (.map (some H.next), H.push (.map [] ⟨0, []⟩)) else none) fun v1 H2 =>
bindP (buildO z39dd08 [(16, 1, v1)]) fun v3 =>
bind2 (if (v3).cells.all (·.one) then some (.ptr (some (H2.next, 0)), H2.push (.cells (v3).cells)) else none) fun v4 H5 =>
K v4 H5
def F20_Lp (R : Caller) (lim n : Nat) (K : AVal → Heap → Prop) : Nat → Tm → Heap → Prop
  | _, _, _ => False
theorem F20_eq (R : Caller) (lim n : Nat) (K : AVal → Heap → Prop) (H : Heap) : F20 R lim n K  H = execI R lim n 4 (F20_Lp R lim n K) f20.body (argT []) H (retW [(.tmp 0)] K) := by kernel_rfl
theorem F20_ob (R : Caller) (lim n : Nat) (K : AVal → Heap → Prop) : Oblig R lim n 4 (F20_Lp R lim n K) f20.body (retW [(.tmp 0)] K) := (oblig_nl (by kernel_rfl))
theorem F20_run {ap : FuncId → Option AFn} (hf : ap 20 = some (.code f20)) {n lim : Nat} {K : AVal → Heap → Prop} {H : Heap} (h : F20 (Ahs.runT ap n) lim n K  H) : ∃ v H', Ahs.runT ap (n + 1) lim (.fn 20) [] H = some (v, H') ∧ K v H' := by
  rw [F20_eq] at h
  exact run_of_W hf (by kernel_rfl) (by kernel_rfl) (execI_sound f20.body _ _ _ _ (F20_ob _ _ _ K) (fun _ _ _ h => h) h)
def F21 (R : Caller) (lim n : Nat) (K : AVal → Heap → Prop) (a0 a1 : AVal) (H : Heap) : Prop :=
bind2 (if (a1).cells.all (·.one) then some (.ptr (some (H.next, 0)), H.push (.cells (a1).cells)) else none) fun v1 H2 =>
bindP (faddrO 0 v1) fun v3 =>
bindP (aload H2 none v3) fun v4 =>
bindP (abin .eql v4 (.int .u8 0)) fun v5 =>
bindP (boolOf v5) fun b6 =>
(b6 = true → (bindP (faddrO 1 v1) fun v7 =>
bindP (aload H2 none v7) fun v8 =>
bindP (faddrO 11 v1) fun v9 =>
bindP (aload H2 (some 4) v9) fun v10 =>
bind2 (R lim (.fn 22) [a0, v8, v10] H2) fun v11 H12 =>
K (.tup [a0, v11]) H12)) ∧
(b6 = false → (bindP (abin .eql v4 (.int .u8 1)) fun v13 =>
bindP (boolOf v13) fun b14 =>
(b14 = true → (bindP (faddrO 1 v1) fun v15 =>
bindP (aload H2 none v15) fun v16 =>
bind2 (R lim (.fn 27) [a0, v16] H2) fun v17 H18 =>
K (.tup [a0, v17]) H18)) ∧
(b14 = false → (bindP (abin .eql v4 (.int .u8 2)) fun v19 =>
bindP (boolOf v19) fun b20 =>
(b20 = true → (bindP (faddrO 1 v1) fun v21 =>
bindP (aload H2 none v21) fun v22 =>
bindP (faddrO 3 v1) fun v23 =>
bindP (aload H2 (some 8) v23) fun v24 =>
bindP (faddrO 2 v1) fun v25 =>
bindP (aload H2 none v25) fun v26 =>
bind2 (R lim (.fn 23) [a0, v22, v24, v26] H2) fun v27 H28 =>
K (.tup [a0, v27]) H28)) ∧
(b20 = false → (bindP (abin .eql v4 (.int .u8 3)) fun v29 =>
bindP (boolOf v29) fun b30 =>
(b30 = true → (bindP (faddrO 3 v1) fun v31 =>
bindP (aload H2 (some 8) v31) fun v32 =>
bind2 (R lim (.fn 29) [a0, v32] H2) fun v33 H34 =>
K (.tup [a0, v33]) H34)) ∧
(b30 = false → (bindP (abin .eql v4 (.int .u8 4)) fun v35 =>
bindP (boolOf v35) fun b36 =>
(b36 = true → (bind2 (R lim (.fn 17) [a0] H2) fun v37 H38 =>
bind2 (R lim (.fn 15) [v37] H38) fun v39 H40 =>
bindP (extO 0 v39) fun v41 =>
bindP (extO 1 v39) fun v42 =>
bindP (gd (some (v42, true)) (some v41)) fun v43 =>
bindP (gd (some (v42, true)) (eqvO true .ptr v43 (.ptr none))) fun v44 =>
bindP (pickO v42 v44 (.bool false)) fun v45 =>
bindP (boolOf v45) fun b46 =>
(b46 = true → (K (.tup [v41, (.int .u8 0)]) H40)) ∧
(b46 = false → (K (.tup [a0, (.int .u8 255)]) H40)))) ∧
(b36 = false → (K (.tup [a0, (.int .u8 0)]) H2))))))))))
def F21_Lp (R : Caller) (lim n : Nat) (K : AVal → Heap → Prop) : Nat → Tm → Heap → Prop
  | _, _, _ => False
theorem F21_eq (R : Caller) (lim n : Nat) (K : AVal → Heap → Prop) (a0 a1 : AVal) (H : Heap) : F21 R lim n K a0 a1 H = execI R lim n 60 (F21_Lp R lim n K) f21.body (argT [a0, a1]) H (retW [(.tmp 4), (.tmp 5)] K) := by kernel_rfl
theorem F21_ob (R : Caller) (lim n : Nat) (K : AVal → Heap → Prop) : Oblig R lim n 60 (F21_Lp R lim n K) f21.body (retW [(.tmp 4), (.tmp 5)] K) := (oblig_nl (by kernel_rfl))
theorem F21_run {ap : FuncId → Option AFn} (hf : ap 21 = some (.code f21)) {n lim : Nat} {K : AVal → Heap → Prop} {a0 a1 : AVal} {H : Heap} (h : F21 (Ahs.runT ap n) lim n K a0 a1 H) : ∃ v H', Ahs.runT ap (n + 1) lim (.fn 21) [a0, a1] H = some (v, H') ∧ K v H' := by
  rw [F21_eq] at h
  exact run_of_W hf (by kernel_rfl) (by kernel_rfl) (execI_sound f21.body _ _ _ _ (F21_ob _ _ _ K) (fun _ _ _ h => h) h)
def F22_j0 (R : Caller) (lim n : Nat) (K : AVal → Heap → Prop) (t0 t1 t5 t7 : AVal) (H : Heap) : Prop :=
bindP (faddrO 0 t7) fun v64 =>
bindP (aload H none v64) fun v65 =>
bindP (abin .gtr v65 (.int .i64 48)) fun v66 =>
bindP (gd (some (v66, false)) (faddrO 1 t7)) fun v67 =>
bindP (gd (some (v66, false)) (aload H none v67)) fun v68 =>
bindP (gd (some (v66, false)) (abin .gtr v68 (.int .i64 1536))) fun v69 =>
bindP (pickO v66 (.bool true) v69) fun v70 =>
bindP (gd (some (v70, false)) (faddrO 2 t7)) fun v71 =>
bindP (gd (some (v70, false)) (aload H none v71)) fun v72 =>
bindP (gd (some (v70, false)) (abin .gtr v72 (.int .i64 200))) fun v73 =>
bindP (pickO v70 (.bool true) v73) fun v74 =>
bindP (boolOf v74) fun b75 =>
(b75 = true → (K (.int .u8 9) H)) ∧
(b75 = false → (bindP (aload H (some 4) t5) fun v76 =>
bindP (nilO t0) fun v77 =>
bindP (faddrO 0 v77) fun v78 =>
bindP (aindexAddr (some 4) 4 v78 t1) fun v79 =>
bindP (astore lim H 4 v79 v76) fun H80 =>
K (.int .u8 0) H80))
def F22_s1 (R : Caller) (lim n : Nat) (K : AVal → Heap → Prop) (rec1 : AVal → AVal → AVal → AVal → AVal → AVal → Heap → Prop) (t0 t1 t5 t7 t29 t30 : AVal) (H : Heap) : Prop :=
bindP (abin .lss t30 (.int .i64 4)) fun v81 =>
bindP (boolOf v81) fun b82 =>
(b82 = true → (bindP (aindex 4 4 true t29 t30) fun v83 =>
bindP (astore lim (H.push (.cells z547173)) 4 (.ptr (some (H.next, 0))) v83) fun H84 =>
bindP (faddrO 0 t7) fun v85 =>
bindP (aload H84 none v85) fun v86 =>
bindP (faddrO 0 (.ptr (some (H.next, 0)))) fun v87 =>
bindP (aload H84 none v87) fun v88 =>
bindP (abin .add v86 v88) fun v89 =>
bindP (faddrO 1 t7) fun v90 =>
bindP (aload H84 none v90) fun v91 =>
bindP (faddrO 1 (.ptr (some (H.next, 0)))) fun v92 =>
(apartB v92 t7 && true) = true ∧
bindP (aload H84 none v92) fun v93 =>
bindP (abin .add v91 v93) fun v94 =>
bindP (faddrO 2 t7) fun v95 =>
bindP (aload H84 none v95) fun v96 =>
bindP (faddrO 2 (.ptr (some (H.next, 0)))) fun v97 =>
(apartB v97 t7 && (apartB v97 t7 && true)) = true ∧
bindP (aload H84 none v97) fun v98 =>
bindP (abin .add v96 v98) fun v99 =>
bindP (faddrO 0 t7) fun v100 =>
bindP (astore lim H84 1 v100 v89) fun H101 =>
bindP (faddrO 1 t7) fun v102 =>
bindP (astore lim H101 1 v102 v94) fun H103 =>
bindP (faddrO 2 t7) fun v104 =>
bindP (astore lim H103 1 v104 v99) fun H105 =>
bindP (abin .add t30 (.int .i64 1)) fun v106 =>
rec1 t0 t1 t5 t7 t29 v106 H105)) ∧
(b82 = false → (F22_j0 R lim n K t0 t1 t5 t7 H))
def F22_l1 (R : Caller) (lim n : Nat) (K : AVal → Heap → Prop) : Nat → AVal → AVal → AVal → AVal → AVal → AVal → Heap → Prop
  | 0, _, _, _, _, _, _, _ => False
  | m + 1, t0, t1, t5, t7, t29, t30, H => F22_s1 R lim n K (F22_l1 R lim n K m) t0 t1 t5 t7 t29 t30 H
def F22 (R : Caller) (lim n : Nat) (K : AVal → Heap → Prop) (a0 a1 a2 : AVal) (H : Heap) : Prop :=
bind2 (if (a2).cells.all (·.one) then some (.ptr (some (H.next, 0)), H.push (.cells (a2).cells)) else none) fun v1 H2 =>
bind2 (R lim (.fn 64) [a0] H2) fun v3 H4 =>
bindP (boolOf v3) fun b5 =>
(b5 = true → (K (.int .u8 9) H4)) ∧
(b5 = false → (bindP (abin .geq a1 (.int .u8 4)) fun v6 =>
bindP (gd (some (v6, false)) (aload H4 (some 4) v1)) fun v7 =>
bind2 (gd2 (some (v6, false)) H4 (R lim (.fn 34) [v7] H4)) fun v8 H9 =>
bindP (gd (some (v6, false)) (aun .not v8)) fun v10 =>
bindP (pickO v6 (.bool true) v10) fun v11 =>
bindP (boolOf v11) fun b12 =>
(b12 = true → (K (.int .u8 11) H9)) ∧
(b12 = false → (bind2 (R lim (.fn 65) [a0, a1] H9) fun v13 H14 =>
bindP (boolOf v13) fun b15 =>
(b15 = true → (K (.int .u8 10) H14)) ∧
(b15 = false → (bindP (aload H14 (some 4) v1) fun v16 =>
bindP (astore lim (H14.push (.cells z547173)) 4 (.ptr (some (H14.next, 0))) v16) fun H17 =>
bindP (nilO a0) fun v18 =>
bindP (faddrO 0 v18) fun v19 =>
bindP (aload H17 (some 16) v19) fun v20 =>
F22_l1 R lim n K n a0 a1 v1 (.ptr (some (H14.next, 0))) v20 (.int .i64 0) H17))))))
def F22_Lp (R : Caller) (lim n : Nat) (K : AVal → Heap → Prop) : Nat → Tm → Heap → Prop
  | 1, T, H => F22_l1 R lim n K n (T 0) (T 1) (T 5) (T 7) (T 29) (T 30) H
  | _, _, _ => False
def F22_Lp1 (R : Caller) (lim n : Nat) (K : AVal → Heap → Prop) (rec1 : AVal → AVal → AVal → AVal → AVal → AVal → Heap → Prop) : Nat → Tm → Heap → Prop
  | _, _, _ => False
def F22_k1 (R : Caller) (lim n : Nat) (K : AVal → Heap → Prop) (rec1 : AVal → AVal → AVal → AVal → AVal → AVal → Heap → Prop) : Kt := fun ex T H => match ex with
  | .norm => rec1 (T 0) (T 1) (T 5) (T 7) (T 29) (T 30) H
  | ex => (kBlk 1 (kSeq (execI R lim n 71 (F22_Lp R lim n K) f22_p1) (retW [(.tmp 6)] K))) ex T H
theorem F22_s1_eq (R : Caller) (lim n : Nat) (K : AVal → Heap → Prop) (rec1 : AVal → AVal → AVal → AVal → AVal → AVal → Heap → Prop) (T : Tm) (H : Heap) : F22_s1 R lim n K rec1 (T 0) (T 1) (T 5) (T 7) (T 29) (T 30) H = execI R lim n 71 (F22_Lp1 R lim n K rec1) f22_p0 T H (F22_k1 R lim n K rec1) := by kernel_rfl
theorem F22_l1_ok (R : Caller) (lim n : Nat) (K : AVal → Heap → Prop) {kw : Kt} (hk : ∀ ex T H, (kBlk 1 (kSeq (execI R lim n 71 (F22_Lp R lim n K) f22_p1) (retW [(.tmp 6)] K))) ex T H → kw ex T H) : ∀ (m : Nat) (T : Tm) (H : Heap), F22_l1 R lim n K m (T 0) (T 1) (T 5) (T 7) (T 29) (T 30) H → loopW (execW R lim n 71 f22_p0) m T H kw
  | 0, _, _, h => False.elim h
  | m + 1, T, H, h => by
    have hb : ∀ ex T H, F22_k1 R lim n K (F22_l1 R lim n K m) ex T H → (fun ex T H => match ex with | .norm => loopW (execW R lim n 71 f22_p0) m T H kw | ex => kw ex T H : Kt) ex T H := by
      intro ex T H h
      cases ex with
      | norm => exact F22_l1_ok R lim n K hk m T H h
      | exit i => exact hk _ _ _ h
      | ret => exact hk _ _ _ h
    have h' : F22_s1 R lim n K (F22_l1 R lim n K m) (T 0) (T 1) (T 5) (T 7) (T 29) (T 30) H := h
    rw [F22_s1_eq] at h'
    exact execI_sound f22_p0 T H _ _ (oblig_nl (by kernel_rfl)) hb h'
theorem F22_eq (R : Caller) (lim n : Nat) (K : AVal → Heap → Prop) (a0 a1 a2 : AVal) (H : Heap) : F22 R lim n K a0 a1 a2 H = execI R lim n 71 (F22_Lp R lim n K) f22.body (argT [a0, a1, a2]) H (retW [(.tmp 6)] K) := by kernel_rfl
theorem F22_ob (R : Caller) (lim n : Nat) (K : AVal → Heap → Prop) : Oblig R lim n 71 (F22_Lp R lim n K) f22.body (retW [(.tmp 6)] K) := ⟨(oblig_nl (by kernel_rfl)), ⟨(oblig_nl (by kernel_rfl)), ⟨(oblig_nl (by kernel_rfl)), ⟨⟨(oblig_nl (by kernel_rfl)), (fun T H h => F22_l1_ok R lim n K (kBlk_mono (kSeqI_sound (oblig_nl (by kernel_rfl)) (fun _ _ _ h => h))) _ T H h)⟩, (oblig_nl (by kernel_rfl))⟩⟩⟩⟩
theorem F22_run {ap : FuncId → Option AFn} (hf : ap 22 = some (.code f22)) {n lim : Nat} {K : AVal → Heap → Prop} {a0 a1 a2 : AVal} {H : Heap} (h : F22 (Ahs.runT ap n) lim n K a0 a1 a2 H) : ∃ v H', Ahs.runT ap (n + 1) lim (.fn 22) [a0, a1, a2] H = some (v, H') ∧ K v H' := by
  rw [F22_eq] at h
  exact run_of_W hf (by kernel_rfl) (by kernel_rfl) (execI_sound f22.body _ _ _ _ (F22_ob _ _ _ K) (fun _ _ _ h => h) h)
def F23 (R : Caller) (lim n : Nat) (K : AVal → Heap → Prop) (a0 a1 a2 a3 : AVal) (H : Heap) : Prop :=
bind2 (if (a2).cells.all (·.one) then some (.ptr (some (H.next, 0)), H.push (.cells (a2).cells)) else none) fun v1 H2 =>
bind2 (R lim (.fn 64) [a0] H2) fun v3 H4 =>
bindP (boolOf v3) fun b5 =>
(b5 = true → (K (.int .u8 9) H4)) ∧
(b5 = false → (bindP (abin .geq a1 (.int .u8 4)) fun v6 =>
bindP (gd (some (v6, false)) (some a3)) fun v7 =>
bindP (gd (some (v6, false)) (abin .lss v7 (.int .u8 1))) fun v8 =>
bindP (pickO v6 (.bool true) v8) fun v9 =>
bindP (gd (some (v9, false)) (some a3)) fun v10 =>
bindP (gd (some (v9, false)) (abin .gtr v10 (.int .u8 3))) fun v11 =>
bindP (pickO v9 (.bool true) v11) fun v12 =>
bindP (gd (some (v12, false)) (aload H4 (some 8) v1)) fun v13 =>
bind2 (gd2 (some (v12, false)) H4 (R lim (.fn 25) [] H4)) fun v14 H15 =>
keptG (some (v12, false)) H4 H15 [v1] ∧
bindP (gd (some (v12, false)) (eqvO false (.cells [(.int .u8), (.int .u8), (.int .u8), (.int .u8), (.int .u8), (.int .u8), (.int .u8), (.int .u8)]) v13 v14)) fun v16 =>
bindP (pickO v12 (.bool true) v16) fun v17 =>
bindP (boolOf v17) fun b18 =>
(b18 = true → (K (.int .u8 11) H15)) ∧
(b18 = false → (bind2 (R lim (.fn 65) [a0, a1] H15) fun v19 H20 =>
bindP (aun .not v19) fun v21 =>
bindP (boolOf v21) fun b22 =>
(b22 = true → (K (.int .u8 1) H20)) ∧
(b22 = false → (bindP (nilO a0) fun v23 =>
bindP (faddrO 16 v23) fun v24 =>
bindP (aload H20 none v24) fun v25 =>
bindP (aload H20 (some 8) v1) fun v26 =>
bindP (alookup H20 true [(.int .u8), (.int .u8), (.int .u8), (.int .u8), (.int .u8), (.int .u8), (.int .u8), (.int .u8)] (.agg [(.int .u8 0), (.int .u8 0)]) true v25 v26) fun v27 =>
bindP (extO 0 v27) fun v28 =>
bindP (extO 1 v27) fun v29 =>
bindP (astore lim (H20.push (.cells [(.int .u8 0), (.int .u8 0)])) 2 (.ptr (some (H20.next, 0))) v28) fun H30 =>
bindP (boolOf v29) fun b31 =>
(b31 = true → (K (.int .u8 10) H30)) ∧
(b31 = false → (bind2 (R lim (.fn 73) [a0, a1] H30) fun v32 H33 =>
bindP (abin .geq v32 (.int .i64 4)) fun v34 =>
bindP (boolOf v34) fun b35 =>
(b35 = true → (K (.int .u8 9) H33)) ∧
(b35 = false → (bindP (nilO a0) fun v36 =>
bindP (faddrO 16 v36) fun v37 =>
bindP (aload H33 none v37) fun v38 =>
bindP (aload H33 (some 8) v1) fun v39 =>
bindP (buildO [(.int .u8 0), (.int .u8 0)] [(0, 1, a1), (1, 1, a3)]) fun v40 =>
bind2 ((amapUpdate lim H33 true [(.int .u8), (.int .u8), (.int .u8), (.int .u8), (.int .u8), (.int .u8), (.int .u8), (.int .u8)] v38 v39 v40).map fun H => (und, H)) fun _ H41 =>
K (.int .u8 0) H41))))))))))
def F23_Lp (R : Caller) (lim n : Nat) (K : AVal → Heap → Prop) : Nat → Tm → Heap → Prop
  | _, _, _ => False
theorem F23_eq (R : Caller) (lim n : Nat) (K : AVal → Heap → Prop) (a0 a1 a2 a3 : AVal) (H : Heap) : F23 R lim n K a0 a1 a2 a3 H = execI R lim n 57 (F23_Lp R lim n K) f23.body (argT [a0, a1, a2, a3]) H (retW [(.tmp 8)] K) := by kernel_rfl
theorem F23_ob (R : Caller) (lim n : Nat) (K : AVal → Heap → Prop) : Oblig R lim n 57 (F23_Lp R lim n K) f23.body (retW [(.tmp 8)] K) := (oblig_nl (by kernel_rfl))
theorem F23_run {ap : FuncId → Option AFn} (hf : ap 23 = some (.code f23)) {n lim : Nat} {K : AVal → Heap → Prop} {a0 a1 a2 a3 : AVal} {H : Heap} (h : F23 (Ahs.runT ap n) lim n K a0 a1 a2 a3 H) : ∃ v H', Ahs.runT ap (n + 1) lim (.fn 23) [a0, a1, a2, a3] H = some (v, H') ∧ K v H' := by
  rw [F23_eq] at h
  exact run_of_W hf (by kernel_rfl) (by kernel_rfl) (execI_sound f23.body _ _ _ _ (F23_ob _ _ _ K) (fun _ _ _ h => h) h)
def F24 (R : Caller) (lim n : Nat) (K : AVal → Heap → Prop) (a0 : AVal) (H : Heap) : Prop :=
bindP (buildO zdff0c5 [(0, 1, a0), (1, 1, a0), (2, 1, a0), (3, 1, a0), (4, 1, a0), (5, 1, a0), (6, 1, a0), (7, 1, a0)]) fun v1 =>
bindP (astore lim (H.push (.cells zdff0c5)) 8 (.ptr (some (H.next, 0))) v1) fun H2 =>
bindP (aload H2 (some 8) (.ptr (some (H.next, 0)))) fun v3 =>
K v3 H2
def F24_Lp (R : Caller) (lim n : Nat) (K : AVal → Heap → Prop) : Nat → Tm → Heap → Prop
  | _, _, _ => False
theorem F24_eq (R : Caller) (lim n : Nat) (K : AVal → Heap → Prop) (a0 : AVal) (H : Heap) : F24 R lim n K a0 H = execI R lim n 12 (F24_Lp R lim n K) f24.body (argT [a0]) H (retW [(.cell 2 (some 8))] K) := by kernel_rfl
theorem F24_ob (R : Caller) (lim n : Nat) (K : AVal → Heap → Prop) : Oblig R lim n 12 (F24_Lp R lim n K) f24.body (retW [(.cell 2 (some 8))] K) := (oblig_nl (by kernel_rfl))
theorem F24_run {ap : FuncId → Option AFn} (hf : ap 24 = some (.code f24)) {n lim : Nat} {K : AVal → Heap → Prop} {a0 : AVal} {H : Heap} (h : F24 (Ahs.runT ap n) lim n K a0 H) : ∃ v H', Ahs.runT ap (n + 1) lim (.fn 24) [a0] H = some (v, H') ∧ K v H' := by
  rw [F24_eq] at h
  exact run_of_W hf (by kernel_rfl) (by kernel_rfl) (execI_sound f24.body _ _ _ _ (F24_ob _ _ _ K) (fun _ _ _ h => h) h)
def F25 (R : Caller) (lim n : Nat) (K : AVal → Heap → Prop) (H : Heap) : Prop :=
bindP (asliceArr 8 1 (.ptr (some ((H.push (.cells zdff0c5)).next, 0))) none none none) fun v1 =>
bind2 (acopy lim ((H.push (.cells zdff0c5)).push (.cells zdff0c5)) 1 v1 (.str [111, 112, 101, 114, 97, 116, 111, 114])) fun v2 H3 =>
bindP (aload H3 (some 8) (.ptr (some ((H.push (.cells zdff0c5)).next, 0)))) fun v4 =>
bindP (astore lim H3 8 (.ptr (some (H.next, 0))) v4) fun H5 =>
bindP (aload H5 (some 8) (.ptr (some (H.next, 0)))) fun v6 =>
K v6 H5
def F25_Lp (R : Caller) (lim n : Nat) (K : AVal → Heap → Prop) : Nat → Tm → Heap → Prop
  | _, _, _ => False
theorem F25_eq (R : Caller) (lim n : Nat) (K : AVal → Heap → Prop) (H : Heap) : F25 R lim n K  H = execI R lim n 5 (F25_Lp R lim n K) f25.body (argT []) H (retW [(.cell 0 (some 8))] K) := by kernel_rfl
theorem F25_ob (R : Caller) (lim n : Nat) (K : AVal → Heap → Prop) : Oblig R lim n 5 (F25_Lp R lim n K) f25.body (retW [(.cell 0 (some 8))] K) := (oblig_nl (by kernel_rfl))
theorem F25_run {ap : FuncId → Option AFn} (hf : ap 25 = some (.code f25)) {n lim : Nat} {K : AVal → Heap → Prop} {H : Heap} (h : F25 (Ahs.runT ap n) lim n K  H) : ∃ v H', Ahs.runT ap (n + 1) lim (.fn 25) [] H = some (v, H') ∧ K v H' := by
  rw [F25_eq] at h
  exact run_of_W hf (by kernel_rfl) (by kernel_rfl) (execI_sound f25.body _ _ _ _ (F25_ob _ _ _ K) (fun _ _ _ h => h) h)
def F26 (R : Caller) (lim n : Nat) (K : AVal → Heap → Prop) (a0 a1 : AVal) (H : Heap) : Prop :=
bind2 (R lim (.fn 64) [a0] (H.push (.cells z547173))) fun v1 H2 =>
bindP (gd (some (v1, false)) (some a1)) fun v3 =>
bindP (gd (some (v1, false)) (abin .geq v3 (.int .u8 4))) fun v4 =>
bindP (pickO v1 (.bool true) v4) fun v5 =>
bindP (gd (some (v5, false)) (some a0)) fun v6 =>
bindP (gd (some (v5, false)) (some a1)) fun v7 =>
bind2 (gd2 (some (v5, false)) H2 (R lim (.fn 65) [v6, v7] H2)) fun v8 H9 =>
bindP (gd (some (v5, false)) (aun .not v8)) fun v10 =>
bindP (pickO v5 (.bool true) v10) fun v11 =>
bindP (boolOf v11) fun b12 =>
(b12 = true → (bindP (buildO z547173 []) fun v13 =>
bindP (astore lim H9 4 (.ptr (some (H.next, 0))) v13) fun H14 =>
bindP (aload H14 (some 4) (.ptr (some (H.next, 0)))) fun v15 =>
K (.tup [v15, (.bool false)]) H14)) ∧
(b12 = false → (bindP (nilO a0) fun v16 =>
bindP (faddrO 0 v16) fun v17 =>
bindP (aindexAddr (some 4) 4 v17 a1) fun v18 =>
bindP (aload H9 (some 4) v18) fun v19 =>
bindP (astore lim H9 4 (.ptr (some (H.next, 0))) v19) fun H20 =>
bindP (aload H20 (some 4) (.ptr (some (H.next, 0)))) fun v21 =>
K (.tup [v21, (.bool true)]) H20))
def F26_Lp (R : Caller) (lim n : Nat) (K : AVal → Heap → Prop) : Nat → Tm → Heap → Prop
  | _, _, _ => False
theorem F26_eq (R : Caller) (lim n : Nat) (K : AVal → Heap → Prop) (a0 a1 : AVal) (H : Heap) : F26 R lim n K a0 a1 H = execI R lim n 25 (F26_Lp R lim n K) f26.body (argT [a0, a1]) H (retW [(.cell 4 (some 4)), (.tmp 5)] K) := by kernel_rfl
theorem F26_ob (R : Caller) (lim n : Nat) (K : AVal → Heap → Prop) : Oblig R lim n 25 (F26_Lp R lim n K) f26.body (retW [(.cell 4 (some 4)), (.tmp 5)] K) := (oblig_nl (by kernel_rfl))
theorem F26_run {ap : FuncId → Option AFn} (hf : ap 26 = some (.code f26)) {n lim : Nat} {K : AVal → Heap → Prop} {a0 a1 : AVal} {H : Heap} (h : F26 (Ahs.runT ap n) lim n K a0 a1 H) : ∃ v H', Ahs.runT ap (n + 1) lim (.fn 26) [a0, a1] H = some (v, H') ∧ K v H' := by
  rw [F26_eq] at h
  exact run_of_W hf (by kernel_rfl) (by kernel_rfl) (execI_sound f26.body _ _ _ _ (F26_ob _ _ _ K) (fun _ _ _ h => h) h)
def F27 (R : Caller) (lim n : Nat) (K : AVal → Heap → Prop) (a0 a1 : AVal) (H : Heap) : Prop :=
bind2 (if (a1).cells.all (·.one) then some (.ptr (some (H.next, 0)), H.push (.cells (a1).cells)) else none) fun v1 H2 =>
bind2 (R lim (.fn 64) [a0] H2) fun v3 H4 =>
bindP (boolOf v3) fun b5 =>
(b5 = true → (K (.int .u8 9) H4)) ∧
(b5 = false → (bindP (aload H4 none v1) fun v6 =>
bindP (abin .geq v6 (.int .u8 4)) fun v7 =>
bindP (boolOf v7) fun b8 =>
(b8 = true → (K (.int .u8 11) H4)) ∧
(b8 = false → (bindP (aload H4 none v1) fun v9 =>
bind2 (R lim (.fn 65) [a0, v9] H4) fun v10 H11 =>
bindP (aun .not v10) fun v12 =>
bindP (boolOf v12) fun b13 =>
(b13 = true → (K (.int .u8 1) H11)) ∧
(b13 = false → (bindP (aload H11 none v1) fun v14 =>
bindP (buildO z547173 []) fun v15 =>
bindP (nilO a0) fun v16 =>
bindP (faddrO 0 v16) fun v17 =>
bindP (aindexAddr (some 4) 4 v17 v14) fun v18 =>
bindP (astore lim H11 4 v18 v15) fun H19 =>
bindP (nilO a0) fun v20 =>
bindP (faddrO 16 v20) fun v21 =>
bindP (aload H19 none v21) fun v22 =>
bindP (some (AVal.fn 75 [] [v1])) fun v23 =>
bind2 (R lim (.fn 74) [v22, v23] H19) fun v24 H25 =>
K (.int .u8 0) H25))))))
def F27_Lp (R : Caller) (lim n : Nat) (K : AVal → Heap → Prop) : Nat → Tm → Heap → Prop
  | _, _, _ => False
theorem F27_eq (R : Caller) (lim n : Nat) (K : AVal → Heap → Prop) (a0 a1 : AVal) (H : Heap) : F27 R lim n K a0 a1 H = execI R lim n 28 (F27_Lp R lim n K) f27.body (argT [a0, a1]) H (retW [(.tmp 4)] K) := by kernel_rfl
theorem F27_ob (R : Caller) (lim n : Nat) (K : AVal → Heap → Prop) : Oblig R lim n 28 (F27_Lp R lim n K) f27.body (retW [(.tmp 4)] K) := (oblig_nl (by kernel_rfl))
theorem F27_run {ap : FuncId → Option AFn} (hf : ap 27 = some (.code f27)) {n lim : Nat} {K : AVal → Heap → Prop} {a0 a1 : AVal} {H : Heap} (h : F27 (Ahs.runT ap n) lim n K a0 a1 H) : ∃ v H', Ahs.runT ap (n + 1) lim (.fn 27) [a0, a1] H = some (v, H') ∧ K v H' := by
  rw [F27_eq] at h
  exact run_of_W hf (by kernel_rfl) (by kernel_rfl) (execI_sound f27.body _ _ _ _ (F27_ob _ _ _ K) (fun _ _ _ h => h) h)
def F28 (R : Caller) (lim n : Nat) (K : AVal → Heap → Prop) (a0 a1 : AVal) (H : Heap) : Prop :=
bind2 (if (a1).cells.all (·.one) then some (.ptr (some (H.next, 0)), H.push (.cells (a1).cells)) else none) fun v1 H2 =>
bind2 (R lim (.fn 64) [a0] H2) fun v3 H4 =>
bindP (boolOf v3) fun b5 =>
(b5 = true → (K (.tup [(.int .u8 0), (.int .u8 0), (.bool false)]) H4)) ∧
(b5 = false → (bindP (nilO a0) fun v6 =>
bindP (faddrO 16 v6) fun v7 =>
bindP (aload H4 none v7) fun v8 =>
bindP (aload H4 (some 8) v1) fun v9 =>
bindP (alookup H4 true [(.int .u8), (.int .u8), (.int .u8), (.int .u8), (.int .u8), (.int .u8), (.int .u8), (.int .u8)] (.agg [(.int .u8 0), (.int .u8 0)]) true v8 v9) fun v10 =>
bindP (extO 0 v10) fun v11 =>
bindP (extO 1 v10) fun v12 =>
bindP (astore lim (H4.push (.cells [(.int .u8 0), (.int .u8 0)])) 2 (.ptr (some (H4.next, 0))) v11) fun H13 =>
bindP (faddrO 0 (.ptr (some (H4.next, 0)))) fun v14 =>
bindP (aload H13 none v14) fun v15 =>
bindP (faddrO 1 (.ptr (some (H4.next, 0)))) fun v16 =>
bindP (aload H13 none v16) fun v17 =>
K (.tup [v15, v17, v12]) H13))
def F28_Lp (R : Caller) (lim n : Nat) (K : AVal → Heap → Prop) : Nat → Tm → Heap → Prop
  | _, _, _ => False
theorem F28_eq (R : Caller) (lim n : Nat) (K : AVal → Heap → Prop) (a0 a1 : AVal) (H : Heap) : F28 R lim n K a0 a1 H = execI R lim n 24 (F28_Lp R lim n K) f28.body (argT [a0, a1]) H (retW [(.tmp 4), (.tmp 5), (.tmp 6)] K) := by kernel_rfl
theorem F28_ob (R : Caller) (lim n : Nat) (K : AVal → Heap → Prop) : Oblig R lim n 24 (F28_Lp R lim n K) f28.body (retW [(.tmp 4), (.tmp 5), (.tmp 6)] K) := (oblig_nl (by kernel_rfl))
theorem F28_run {ap : FuncId → Option AFn} (hf : ap 28 = some (.code f28)) {n lim : Nat} {K : AVal → Heap → Prop} {a0 a1 : AVal} {H : Heap} (h : F28 (Ahs.runT ap n) lim n K a0 a1 H) : ∃ v H', Ahs.runT ap (n + 1) lim (.fn 28) [a0, a1] H = some (v, H') ∧ K v H' := by
  rw [F28_eq] at h
  exact run_of_W hf (by kernel_rfl) (by kernel_rfl) (execI_sound f28.body _ _ _ _ (F28_ob _ _ _ K) (fun _ _ _ h => h) h)
def F29 (R : Caller) (lim n : Nat) (K : AVal → Heap → Prop) (a0 a1 : AVal) (H : Heap) : Prop :=
bind2 (if (a1).cells.all (·.one) then some (.ptr (some (H.next, 0)), H.push (.cells (a1).cells)) else none) fun v1 H2 =>
bind2 (R lim (.fn 64) [a0] H2) fun v3 H4 =>
bindP (boolOf v3) fun b5 =>
(b5 = true → (K (.int .u8 9) H4)) ∧
(b5 = false → (bindP (nilO a0) fun v6 =>
bindP (faddrO 16 v6) fun v7 =>
bindP (aload H4 none v7) fun v8 =>
bindP (aload H4 (some 8) v1) fun v9 =>
bindP (alookup H4 true [(.int .u8), (.int .u8), (.int .u8), (.int .u8), (.int .u8), (.int .u8), (.int .u8), (.int .u8)] (.agg [(.int .u8 0), (.int .u8 0)]) true v8 v9) fun v10 =>
bindP (extO 0 v10) fun v11 =>
bindP (extO 1 v10) fun v12 =>
bindP (astore lim (H4.push (.cells [(.int .u8 0), (.int .u8 0)])) 2 (.ptr (some (H4.next, 0))) v11) fun H13 =>
bindP (aun .not v12) fun v14 =>
bindP (boolOf v14) fun b15 =>
(b15 = true → (K (.int .u8 1) H13)) ∧
(b15 = false → (bindP (nilO a0) fun v16 =>
bindP (faddrO 16 v16) fun v17 =>
bindP (aload H13 none v17) fun v18 =>
bindP (aload H13 (some 8) v1) fun v19 =>
bind2 ((amapDelete lim H13 true [(.int .u8), (.int .u8), (.int .u8), (.int .u8), (.int .u8), (.int .u8), (.int .u8), (.int .u8)] v18 v19).map fun H => (und, H)) fun _ H20 =>
K (.int .u8 0) H20))))
def F29_Lp (R : Caller) (lim n : Nat) (K : AVal → Heap → Prop) : Nat → Tm → Heap → Prop
  | _, _, _ => False
theorem F29_eq (R : Caller) (lim n : Nat) (K : AVal → Heap → Prop) (a0 a1 : AVal) (H : Heap) : F29 R lim n K a0 a1 H = execI R lim n 25 (F29_Lp R lim n K) f29.body (argT [a0, a1]) H (retW [(.tmp 4)] K) := by kernel_rfl
theorem F29_ob (R : Caller) (lim n : Nat) (K : AVal → Heap → Prop) : Oblig R lim n 25 (F29_Lp R lim n K) f29.body (retW [(.tmp 4)] K) := (oblig_nl (by kernel_rfl))
theorem F29_run {ap : FuncId → Option AFn} (hf : ap 29 = some (.code f29)) {n lim : Nat} {K : AVal → Heap → Prop} {a0 a1 : AVal} {H : Heap} (h : F29 (Ahs.runT ap n) lim n K a0 a1 H) : ∃ v H', Ahs.runT ap (n + 1) lim (.fn 29) [a0, a1] H = some (v, H') ∧ K v H' := by
  rw [F29_eq] at h
  exact run_of_W hf (by kernel_rfl) (by kernel_rfl) (execI_sound f29.body _ _ _ _ (F29_ob _ _ _ K) (fun _ _ _ h => h) h)
def F34 (R : Caller) (lim n : Nat) (K : AVal → Heap → Prop) (a0 : AVal) (H : Heap) : Prop :=
bind2 (if (a0).cells.all (·.one) then some (.ptr (some (H.next, 0)), H.push (.cells (a0).cells)) else none) fun v1 H2 =>
bindP (faddrO 0 v1) fun v3 =>
bindP (aload H2 none v3) fun v4 =>
bind2 (callvO R lim (.fn 78 [] []) [v4, (.int .i64 1), (.int .i64 16)] H2) fun v5 H6 =>
bindP (gd (some (v5, true)) (some (.fn 78 [] []))) fun v7 =>
bindP (gd (some (v5, true)) (faddrO 1 v1)) fun v8 =>
bindP (gd (some (v5, true)) (aload H6 none v8)) fun v9 =>
bind2 (gd2 (some (v5, true)) H6 (callvO R lim v7 [v9, (.int .i64 1), (.int .i64 512)] H6)) fun v10 H11 =>
bindP (pickO v5 v10 (.bool false)) fun v12 =>
bindP (gd (some (v12, true)) (some (.fn 78 [] []))) fun v13 =>
bindP (gd (some (v12, true)) (faddrO 2 v1)) fun v14 =>
bindP (gd (some (v12, true)) (aload H11 none v14)) fun v15 =>
bind2 (gd2 (some (v12, true)) H11 (callvO R lim v13 [v15, (.int .i64 0), (.int .i64 100)] H11)) fun v16 H17 =>
bindP (pickO v12 v16 (.bool false)) fun v18 =>
bindP (gd (some (v18, true)) (some (.fn 78 [] []))) fun v19 =>
bindP (gd (some (v18, true)) (faddrO 3 v1)) fun v20 =>
bindP (gd (some (v18, true)) (aload H17 none v20)) fun v21 =>
bind2 (gd2 (some (v18, true)) H17 (callvO R lim v19 [v21, (.int .i64 1), (.int .i64 100)] H17)) fun v22 H23 =>
bindP (pickO v18 v22 (.bool false)) fun v24 =>
K v24 H23
def F34_Lp (R : Caller) (lim n : Nat) (K : AVal → Heap → Prop) : Nat → Tm → Heap → Prop
  | _, _, _ => False
theorem F34_eq (R : Caller) (lim n : Nat) (K : AVal → Heap → Prop) (a0 : AVal) (H : Heap) : F34 R lim n K a0 H = execI R lim n 26 (F34_Lp R lim n K) f34.body (argT [a0]) H (retW [(.tmp 2)] K) := by kernel_rfl
theorem F34_ob (R : Caller) (lim n : Nat) (K : AVal → Heap → Prop) : Oblig R lim n 26 (F34_Lp R lim n K) f34.body (retW [(.tmp 2)] K) := (oblig_nl (by kernel_rfl))
theorem F34_run {ap : FuncId → Option AFn} (hf : ap 34 = some (.code f34)) {n lim : Nat} {K : AVal → Heap → Prop} {a0 : AVal} {H : Heap} (h : F34 (Ahs.runT ap n) lim n K a0 H) : ∃ v H', Ahs.runT ap (n + 1) lim (.fn 34) [a0] H = some (v, H') ∧ K v H' := by
  rw [F34_eq] at h
  exact run_of_W hf (by kernel_rfl) (by kernel_rfl) (execI_sound f34.body _ _ _ _ (F34_ob _ _ _ K) (fun _ _ _ h => h) h)
def F35 (R : Caller) (lim n : Nat) (K : AVal → Heap → Prop) (a0 : AVal) (H : Heap) : Prop :=
bind2 (if (a0).cells.all (·.one) then some (.ptr (some (H.next, 0)), H.push (.cells (a0).cells)) else none) fun v1 H2 =>
bindP (faddrO 0 v1) fun v3 =>
bindP (aload H2 none v3) fun v4 =>
bindP (abin .geq v4 (.int .i64 1)) fun v5 =>
bindP (gd (some (v5, true)) (faddrO 0 v1)) fun v6 =>
bindP (gd (some (v5, true)) (aload H2 none v6)) fun v7 =>
bindP (gd (some (v5, true)) (abin .leq v7 (.int .i64 16))) fun v8 =>
bindP (pickO v5 v8 (.bool false)) fun v9 =>
bindP (gd (some (v9, true)) (faddrO 1 v1)) fun v10 =>
bindP (gd (some (v9, true)) (aload H2 none v10)) fun v11 =>
bindP (gd (some (v9, true)) (abin .geq v11 (.int .i64 1))) fun v12 =>
bindP (pickO v9 v12 (.bool false)) fun v13 =>
bindP (gd (some (v13, true)) (faddrO 1 v1)) fun v14 =>
bindP (gd (some (v13, true)) (aload H2 none v14)) fun v15 =>
bindP (gd (some (v13, true)) (abin .leq v15 (.int .i64 512))) fun v16 =>
bindP (pickO v13 v16 (.bool false)) fun v17 =>
bindP (gd (some (v17, true)) (faddrO 2 v1)) fun v18 =>
bindP (gd (some (v17, true)) (aload H2 none v18)) fun v19 =>
bindP (gd (some (v17, true)) (abin .geq v19 (.int .i64 0))) fun v20 =>
bindP (pickO v17 v20 (.bool false)) fun v21 =>
bindP (gd (some (v21, true)) (faddrO 2 v1)) fun v22 =>
bindP (gd (some (v21, true)) (aload H2 none v22)) fun v23 =>
bindP (gd (some (v21, true)) (abin .leq v23 (.int .i64 100))) fun v24 =>
bindP (pickO v21 v24 (.bool false)) fun v25 =>
bindP (gd (some (v25, true)) (faddrO 3 v1)) fun v26 =>
bindP (gd (some (v25, true)) (aload H2 none v26)) fun v27 =>
bindP (gd (some (v25, true)) (abin .geq v27 (.int .i64 1))) fun v28 =>
bindP (pickO v25 v28 (.bool false)) fun v29 =>
bindP (gd (some (v29, true)) (faddrO 3 v1)) fun v30 =>
bindP (gd (some (v29, true)) (aload H2 none v30)) fun v31 =>
bindP (gd (some (v29, true)) (abin .leq v31 (.int .i64 100))) fun v32 =>
bindP (pickO v29 v32 (.bool false)) fun v33 =>
K v33 H2
def F35_Lp (R : Caller) (lim n : Nat) (K : AVal → Heap → Prop) : Nat → Tm → Heap → Prop
  | _, _, _ => False
theorem F35_eq (R : Caller) (lim n : Nat) (K : AVal → Heap → Prop) (a0 : AVal) (H : Heap) : F35 R lim n K a0 H = execI R lim n 41 (F35_Lp R lim n K) f35.body (argT [a0]) H (retW [(.tmp 2)] K) := by kernel_rfl
theorem F35_ob (R : Caller) (lim n : Nat) (K : AVal → Heap → Prop) : Oblig R lim n 41 (F35_Lp R lim n K) f35.body (retW [(.tmp 2)] K) := (oblig_nl (by kernel_rfl))
theorem F35_run {ap : FuncId → Option AFn} (hf : ap 35 = some (.code f35)) {n lim : Nat} {K : AVal → Heap → Prop} {a0 : AVal} {H : Heap} (h : F35 (Ahs.runT ap n) lim n K a0 H) : ∃ v H', Ahs.runT ap (n + 1) lim (.fn 35) [a0] H = some (v, H') ∧ K v H' := by
  rw [F35_eq] at h
  exact run_of_W hf (by kernel_rfl) (by kernel_rfl) (execI_sound f35.body _ _ _ _ (F35_ob _ _ _ K) (fun _ _ _ h => h) h)
def F58_j0 (R : Caller) (lim n : Nat) (K : AVal → Heap → Prop) (t0 t2 : AVal) (H : Heap) : Prop :=
bindP (aload H (some 4) t2) fun v26 =>
bindP (astore lim H 4 t2 v26) fun H27 =>
bindP (aload H27 (some 4) t2) fun v28 =>
K (.tup [v28, t0]) H27
def F58_s0 (R : Caller) (lim n : Nat) (K : AVal → Heap → Prop) (rec0 : AVal → AVal → AVal → AVal → AVal → Heap → Prop) (t0 t2 t13 t14 t15 : AVal) (H : Heap) : Prop :=
bindP (abin .lss t15 t14) fun v29 =>
bindP (boolOf v29) fun b30 =>
(b30 = true → (bindP (aindexAddr none 1 t13 t15) fun v31 =>
bindP (aload H none v31) fun v32 =>
bind2 (R lim (.fn 59) [t0] H) fun v33 H34 =>
bindP (extO 0 v33) fun v35 =>
bindP (extO 1 v33) fun v36 =>
bindP (extO 2 v33) fun v37 =>
bindP (aminmax false [v35, (.int .u64 4294967296)]) fun v38 =>
bindP (convO .i64 v38) fun v39 =>
bindP (nilO v32) fun v40 =>
bindP (astore lim H34 1 v40 v39) fun H41 =>
bindP (asliceStr t0 (some v36) none) fun v42 =>
bindP (abin .add t15 (.int .i64 1)) fun v43 =>
rec0 v42 t2 t13 t14 v43 H41)) ∧
(b30 = false → (F58_j0 R lim n K t0 t2 H))
def F58_l0 (R : Caller) (lim n : Nat) (K : AVal → Heap → Prop) : Nat → AVal → AVal → AVal → AVal → AVal → Heap → Prop
  | 0, _, _, _, _, _, _ => False
  | m + 1, t0, t2, t13, t14, t15, H => F58_s0 R lim n K (F58_l0 R lim n K m) t0 t2 t13 t14 t15 H
def F58 (R : Caller) (lim n : Nat) (K : AVal → Heap → Prop) (a0 : AVal) (H : Heap) : Prop :=
bindP (faddrO 0 (.ptr (some (H.next, 0)))) fun v1 =>
bindP (faddrO 1 (.ptr (some (H.next, 0)))) fun v2 =>
bindP (faddrO 2 (.ptr (some (H.next, 0)))) fun v3 =>
bindP (faddrO 3 (.ptr (some (H.next, 0)))) fun v4 =>
bind2 ((fillV zc0a9bf [(0, 1, v1), (1, 1, v2), (2, 1, v3), (3, 1, v4)]).map fun cs => (.sl (some ((H.push (.cells z547173)).next, 0)) 4 (.ex 4), (H.push (.cells z547173)).push (.cells cs))) fun v5 H6 =>
bindP (alen false v5) fun v7 =>
F58_l0 R lim n K n a0 (.ptr (some (H.next, 0))) v5 v7 (.int .i64 0) H6
def F58_Lp (R : Caller) (lim n : Nat) (K : AVal → Heap → Prop) : Nat → Tm → Heap → Prop
  | 0, T, H => F58_l0 R lim n K n (T 0) (T 2) (T 13) (T 14) (T 15) H
  | _, _, _ => False
def F58_Lp0 (R : Caller) (lim n : Nat) (K : AVal → Heap → Prop) (rec0 : AVal → AVal → AVal → AVal → AVal → Heap → Prop) : Nat → Tm → Heap → Prop
  | _, _, _ => False
def F58_k0 (R : Caller) (lim n : Nat) (K : AVal → Heap → Prop) (rec0 : AVal → AVal → AVal → AVal → AVal → Heap → Prop) : Kt := fun ex T H => match ex with
  | .norm => rec0 (T 0) (T 2) (T 13) (T 14) (T 15) H
  | ex => (kBlk 0 (kSeq (execI R lim n 36 (F58_Lp R lim n K) f58_p1) (retW [(.cell 2 (some 4)), (.tmp 3)] K))) ex T H
theorem F58_s0_eq (R : Caller) (lim n : Nat) (K : AVal → Heap → Prop) (rec0 : AVal → AVal → AVal → AVal → AVal → Heap → Prop) (T : Tm) (H : Heap) : F58_s0 R lim n K rec0 (T 0) (T 2) (T 13) (T 14) (T 15) H = execI R lim n 36 (F58_Lp0 R lim n K rec0) f58_p0 T H (F58_k0 R lim n K rec0) := by kernel_rfl
theorem F58_l0_ok (R : Caller) (lim n : Nat) (K : AVal → Heap → Prop) {kw : Kt} (hk : ∀ ex T H, (kBlk 0 (kSeq (execI R lim n 36 (F58_Lp R lim n K) f58_p1) (retW [(.cell 2 (some 4)), (.tmp 3)] K))) ex T H → kw ex T H) : ∀ (m : Nat) (T : Tm) (H : Heap), F58_l0 R lim n K m (T 0) (T 2) (T 13) (T 14) (T 15) H → loopW (execW R lim n 36 f58_p0) m T H kw
  | 0, _, _, h => False.elim h
  | m + 1, T, H, h => by
    have hb : ∀ ex T H, F58_k0 R lim n K (F58_l0 R lim n K m) ex T H → (fun ex T H => match ex with | .norm => loopW (execW R lim n 36 f58_p0) m T H kw | ex => kw ex T H : Kt) ex T H := by
      intro ex T H h
      cases ex with
      | norm => exact F58_l0_ok R lim n K hk m T H h
      | exit i => exact hk _ _ _ h
      | ret => exact hk _ _ _ h
    have h' : F58_s0 R lim n K (F58_l0 R lim n K m) (T 0) (T 2) (T 13) (T 14) (T 15) H := h
    rw [F58_s0_eq] at h'
    exact execI_sound f58_p0 T H _ _ (oblig_nl (by kernel_rfl)) hb h'
theorem F58_eq (R : Caller) (lim n : Nat) (K : AVal → Heap → Prop) (a0 : AVal) (H : Heap) : F58 R lim n K a0 H = execI R lim n 36 (F58_Lp R lim n K) f58.body (argT [a0]) H (retW [(.cell 2 (some 4)), (.tmp 3)] K) := by kernel_rfl
theorem F58_ob (R : Caller) (lim n : Nat) (K : AVal → Heap → Prop) : Oblig R lim n 36 (F58_Lp R lim n K) f58.body (retW [(.cell 2 (some 4)), (.tmp 3)] K) := ⟨(oblig_nl (by kernel_rfl)), ⟨⟨(oblig_nl (by kernel_rfl)), (fun T H h => F58_l0_ok R lim n K (kBlk_mono (kSeqI_sound (oblig_nl (by kernel_rfl)) (fun _ _ _ h => h))) _ T H h)⟩, (oblig_nl (by kernel_rfl))⟩⟩
theorem F58_run {ap : FuncId → Option AFn} (hf : ap 58 = some (.code f58)) {n lim : Nat} {K : AVal → Heap → Prop} {a0 : AVal} {H : Heap} (h : F58 (Ahs.runT ap n) lim n K a0 H) : ∃ v H', Ahs.runT ap (n + 1) lim (.fn 58) [a0] H = some (v, H') ∧ K v H' := by
  rw [F58_eq] at h
  exact run_of_W hf (by kernel_rfl) (by kernel_rfl) (execI_sound f58.body _ _ _ _ (F58_ob _ _ _ K) (fun _ _ _ h => h) h)
def F59_j0 (R : Caller) (lim n : Nat) (K : AVal → Heap → Prop) (H : Heap) : Prop :=
K (.tup [(.int .u64 0), (.int .i64 0), (.bool false)]) H
def F59_s0 (R : Caller) (lim n : Nat) (K : AVal → Heap → Prop) (rec0 : AVal → AVal → AVal → Heap → Prop) (t0 t2 t3 : AVal) (H : Heap) : Prop :=
bindP (alen true t0) fun v25 =>
bindP (abin .lss t3 v25) fun v26 =>
bindP (gd (some (v26, true)) (some t3)) fun v27 =>
bindP (gd (some (v26, true)) (abin .lss v27 (.int .i64 10))) fun v28 =>
bindP (pickO v26 v28 (.bool false)) fun v29 =>
bindP (boolOf v29) fun b30 =>
(b30 = true → (bindP (aindexStr t0 t3) fun v31 =>
bindP (abin .eql t3 (.int .i64 0)) fun v32 =>
bindP (gd (some (v32, true)) (some v31)) fun v33 =>
bindP (gd (some (v32, true)) (abin .eql v33 (.int .u8 128))) fun v34 =>
bindP (pickO v32 v34 (.bool false)) fun v35 =>
bindP (gd (some (v35, false)) (some t2)) fun v36 =>
bindP (gd (some (v35, false)) (abin .shr v36 (.int .u64 57))) fun v37 =>
bindP (gd (some (v35, false)) (abin .gtr v37 (.int .u64 0))) fun v38 =>
bindP (pickO v35 (.bool true) v38) fun v39 =>
bindP (boolOf v39) fun b40 =>
(b40 = true → (F59_j0 R lim n K H)) ∧
(b40 = false → (bindP (abin .shl t2 (.int .u64 7)) fun v41 =>
bindP (abin .and v31 (.int .u8 127)) fun v42 =>
bindP (convO .u64 v42) fun v43 =>
bindP (abin .or v41 v43) fun v44 =>
bindP (abin .add t3 (.int .i64 1)) fun v45 =>
bindP (abin .and v31 (.int .u8 128)) fun v46 =>
bindP (abin .eql v46 (.int .u8 0)) fun v47 =>
bindP (boolOf v47) fun b48 =>
(b48 = true → (K (.tup [v44, v45, (.bool true)]) H)) ∧
(b48 = false → (rec0 t0 v44 v45 H)))))) ∧
(b30 = false → (F59_j0 R lim n K H))
def F59_l0 (R : Caller) (lim n : Nat) (K : AVal → Heap → Prop) : Nat → AVal → AVal → AVal → Heap → Prop
  | 0, _, _, _, _ => False
  | m + 1, t0, t2, t3, H => F59_s0 R lim n K (F59_l0 R lim n K m) t0 t2 t3 H
def F59 (R : Caller) (lim n : Nat) (K : AVal → Heap → Prop) (a0 : AVal) (H : Heap) : Prop :=
F59_l0 R lim n K n a0 (.int .u64 0) (.int .i64 0) H
def F59_Lp (R : Caller) (lim n : Nat) (K : AVal → Heap → Prop) : Nat → Tm → Heap → Prop
  | 0, T, H => F59_l0 R lim n K n (T 0) (T 2) (T 3) H
  | _, _, _ => False
def F59_Lp0 (R : Caller) (lim n : Nat) (K : AVal → Heap → Prop) (rec0 : AVal → AVal → AVal → Heap → Prop) : Nat → Tm → Heap → Prop
  | _, _, _ => False
def F59_k0 (R : Caller) (lim n : Nat) (K : AVal → Heap → Prop) (rec0 : AVal → AVal → AVal → Heap → Prop) : Kt := fun ex T H => match ex with
  | .norm => rec0 (T 0) (T 2) (T 3) H
  | ex => (kBlk 0 (kSeq (execI R lim n 41 (F59_Lp R lim n K) f59_p1) (retW [(.tmp 2), (.tmp 3), (.tmp 4)] K))) ex T H
theorem F59_s0_eq (R : Caller) (lim n : Nat) (K : AVal → Heap → Prop) (rec0 : AVal → AVal → AVal → Heap → Prop) (T : Tm) (H : Heap) : F59_s0 R lim n K rec0 (T 0) (T 2) (T 3) H = execI R lim n 41 (F59_Lp0 R lim n K rec0) f59_p0 T H (F59_k0 R lim n K rec0) := by kernel_rfl
theorem F59_l0_ok (R : Caller) (lim n : Nat) (K : AVal → Heap → Prop) {kw : Kt} (hk : ∀ ex T H, (kBlk 0 (kSeq (execI R lim n 41 (F59_Lp R lim n K) f59_p1) (retW [(.tmp 2), (.tmp 3), (.tmp 4)] K))) ex T H → kw ex T H) : ∀ (m : Nat) (T : Tm) (H : Heap), F59_l0 R lim n K m (T 0) (T 2) (T 3) H → loopW (execW R lim n 41 f59_p0) m T H kw
  | 0, _, _, h => False.elim h
  | m + 1, T, H, h => by
    have hb : ∀ ex T H, F59_k0 R lim n K (F59_l0 R lim n K m) ex T H → (fun ex T H => match ex with | .norm => loopW (execW R lim n 41 f59_p0) m T H kw | ex => kw ex T H : Kt) ex T H := by
      intro ex T H h
      cases ex with
      | norm => exact F59_l0_ok R lim n K hk m T H h
      | exit i => exact hk _ _ _ h
      | ret => exact hk _ _ _ h
    have h' : F59_s0 R lim n K (F59_l0 R lim n K m) (T 0) (T 2) (T 3) H := h
    rw [F59_s0_eq] at h'
    exact execI_sound f59_p0 T H _ _ (oblig_nl (by kernel_rfl)) hb h'
theorem F59_eq (R : Caller) (lim n : Nat) (K : AVal → Heap → Prop) (a0 : AVal) (H : Heap) : F59 R lim n K a0 H = execI R lim n 41 (F59_Lp R lim n K) f59.body (argT [a0]) H (retW [(.tmp 2), (.tmp 3), (.tmp 4)] K) := by kernel_rfl
theorem F59_ob (R : Caller) (lim n : Nat) (K : AVal → Heap → Prop) : Oblig R lim n 41 (F59_Lp R lim n K) f59.body (retW [(.tmp 2), (.tmp 3), (.tmp 4)] K) := ⟨(oblig_nl (by kernel_rfl)), ⟨(fun T H h => F59_l0_ok R lim n K (kBlk_mono (kSeqI_sound (oblig_nl (by kernel_rfl)) (fun _ _ _ h => h))) _ T H h), (oblig_nl (by kernel_rfl))⟩⟩
theorem F59_run {ap : FuncId → Option AFn} (hf : ap 59 = some (.code f59)) {n lim : Nat} {K : AVal → Heap → Prop} {a0 : AVal} {H : Heap} (h : F59 (Ahs.runT ap n) lim n K a0 H) : ∃ v H', Ahs.runT ap (n + 1) lim (.fn 59) [a0] H = some (v, H') ∧ K v H' := by
  rw [F59_eq] at h
  exact run_of_W hf (by kernel_rfl) (by kernel_rfl) (execI_sound f59.body _ _ _ _ (F59_ob _ _ _ K) (fun _ _ _ h => h) h)
def F60_j0 (R : Caller) (lim n : Nat) (K : AVal → Heap → Prop) (H : Heap) : Prop :=
K (.tup [(.int .u64 0), (.int .i64 0), (.bool false)]) H
def F60_s0 (R : Caller) (lim n : Nat) (K : AVal → Heap → Prop) (rec0 : AVal → AVal → AVal → Heap → Prop) (t0 t5 t6 : AVal) (H : Heap) : Prop :=
bindP (alen true t0) fun v23 =>
bindP (abin .lss t6 v23) fun v24 =>
bindP (gd (some (v24, true)) (some t6)) fun v25 =>
bindP (gd (some (v24, true)) (abin .lss v25 (.int .i64 10))) fun v26 =>
bindP (pickO v24 v26 (.bool false)) fun v27 =>
bindP (boolOf v27) fun b28 =>
(b28 = true → (bindP (abin .mul (.int .u64 128) t5) fun v29 =>
bindP (aindexStr t0 t6) fun v30 =>
bindP (abin .rem v30 (.int .u8 128)) fun v31 =>
bindP (convO .u64 v31) fun v32 =>
bindP (abin .add v29 v32) fun v33 =>
bindP (aindexStr t0 t6) fun v34 =>
bindP (abin .lss v34 (.int .u8 128)) fun v35 =>
bindP (boolOf v35) fun b36 =>
(b36 = true → (bind2 (R lim (.fn 72) [v33] H) fun v37 H38 =>
bindP (abin .add t6 (.int .i64 1)) fun v39 =>
bindP (asliceStr t0 none (some v39)) fun v40 =>
bindP (abin .neq v37 v40) fun v41 =>
bindP (boolOf v41) fun b42 =>
(b42 = true → (K (.tup [(.int .u64 0), (.int .i64 0), (.bool false)]) H38)) ∧
(b42 = false → (bindP (abin .add t6 (.int .i64 1)) fun v43 =>
K (.tup [v33, v43, (.bool true)]) H38)))) ∧
(b36 = false → (bindP (abin .add t6 (.int .i64 1)) fun v44 =>
rec0 t0 v33 v44 H)))) ∧
(b28 = false → (F60_j0 R lim n K H))
def F60_l0 (R : Caller) (lim n : Nat) (K : AVal → Heap → Prop) : Nat → AVal → AVal → AVal → Heap → Prop
  | 0, _, _, _, _ => False
  | m + 1, t0, t5, t6, H => F60_s0 R lim n K (F60_l0 R lim n K m) t0 t5 t6 H
def F60 (R : Caller) (lim n : Nat) (K : AVal → Heap → Prop) (a0 : AVal) (H : Heap) : Prop :=
F60_l0 R lim n K n a0 (.int .u64 0) (.int .i64 0) H
def F60_Lp (R : Caller) (lim n : Nat) (K : AVal → Heap → Prop) : Nat → Tm → Heap → Prop
  | 0, T, H => F60_l0 R lim n K n (T 0) (T 5) (T 6) H
  | _, _, _ => False
def F60_Lp0 (R : Caller) (lim n : Nat) (K : AVal → Heap → Prop) (rec0 : AVal → AVal → AVal → Heap → Prop) : Nat → Tm → Heap → Prop
  | _, _, _ => False
def F60_k0 (R : Caller) (lim n : Nat) (K : AVal → Heap → Prop) (rec0 : AVal → AVal → AVal → Heap → Prop) : Kt := fun ex T H => match ex with
  | .norm => rec0 (T 0) (T 5) (T 6) H
  | ex => (kBlk 0 (kSeq (execI R lim n 39 (F60_Lp R lim n K) f60_p1) (retW [(.tmp 2), (.tmp 3), (.tmp 4)] K))) ex T H
theorem F60_s0_eq (R : Caller) (lim n : Nat) (K : AVal → Heap → Prop) (rec0 : AVal → AVal → AVal → Heap → Prop) (T : Tm) (H : Heap) : F60_s0 R lim n K rec0 (T 0) (T 5) (T 6) H = execI R lim n 39 (F60_Lp0 R lim n K rec0) f60_p0 T H (F60_k0 R lim n K rec0) := by kernel_rfl
theorem F60_l0_ok (R : Caller) (lim n : Nat) (K : AVal → Heap → Prop) {kw : Kt} (hk : ∀ ex T H, (kBlk 0 (kSeq (execI R lim n 39 (F60_Lp R lim n K) f60_p1) (retW [(.tmp 2), (.tmp 3), (.tmp 4)] K))) ex T H → kw ex T H) : ∀ (m : Nat) (T : Tm) (H : Heap), F60_l0 R lim n K m (T 0) (T 5) (T 6) H → loopW (execW R lim n 39 f60_p0) m T H kw
  | 0, _, _, h => False.elim h
  | m + 1, T, H, h => by
    have hb : ∀ ex T H, F60_k0 R lim n K (F60_l0 R lim n K m) ex T H → (fun ex T H => match ex with | .norm => loopW (execW R lim n 39 f60_p0) m T H kw | ex => kw ex T H : Kt) ex T H := by
      intro ex T H h
      cases ex with
      | norm => exact F60_l0_ok R lim n K hk m T H h
      | exit i => exact hk _ _ _ h
      | ret => exact hk _ _ _ h
    have h' : F60_s0 R lim n K (F60_l0 R lim n K m) (T 0) (T 5) (T 6) H := h
    rw [F60_s0_eq] at h'
    exact execI_sound f60_p0 T H _ _ (oblig_nl (by kernel_rfl)) hb h'
theorem F60_eq (R : Caller) (lim n : Nat) (K : AVal → Heap → Prop) (a0 : AVal) (H : Heap) : F60 R lim n K a0 H = execI R lim n 39 (F60_Lp R lim n K) f60.body (argT [a0]) H (retW [(.tmp 2), (.tmp 3), (.tmp 4)] K) := by kernel_rfl
theorem F60_ob (R : Caller) (lim n : Nat) (K : AVal → Heap → Prop) : Oblig R lim n 39 (F60_Lp R lim n K) f60.body (retW [(.tmp 2), (.tmp 3), (.tmp 4)] K) := ⟨(oblig_nl (by kernel_rfl)), ⟨(oblig_nl (by kernel_rfl)), ⟨⟨(oblig_nl (by kernel_rfl)), (fun T H h => F60_l0_ok R lim n K (kBlk_mono (kSeqI_sound (oblig_nl (by kernel_rfl)) (fun _ _ _ h => h))) _ T H h)⟩, (oblig_nl (by kernel_rfl))⟩⟩⟩
theorem F60_run {ap : FuncId → Option AFn} (hf : ap 60 = some (.code f60)) {n lim : Nat} {K : AVal → Heap → Prop} {a0 : AVal} {H : Heap} (h : F60 (Ahs.runT ap n) lim n K a0 H) : ∃ v H', Ahs.runT ap (n + 1) lim (.fn 60) [a0] H = some (v, H') ∧ K v H' := by
  rw [F60_eq] at h
  exact run_of_W hf (by kernel_rfl) (by kernel_rfl) (execI_sound f60.body _ _ _ _ (F60_ob _ _ _ K) (fun _ _ _ h => h) h)
def F64 (R : Caller) (lim n : Nat) (K : AVal → Heap → Prop) (a0 : AVal) (H : Heap) : Prop :=
bindP (eqvO false .ptr a0 (.ptr none)) fun v1 =>
bindP (gd (some (v1, false)) (some a0)) fun v2 =>
bindP (gd (some (v1, false)) (nilO v2)) fun v3 =>
bindP (gd (some (v1, false)) (faddrO 16 v3)) fun v4 =>
bindP (gd (some (v1, false)) (aload H none v4)) fun v5 =>
bindP (gd (some (v1, false)) (eqvO false .map v5 (.map none))) fun v6 =>
bindP (pickO v1 (.bool true) v6) fun v7 =>
K v7 H
def F64_Lp (R : Caller) (lim n : Nat) (K : AVal → Heap → Prop) : Nat → Tm → Heap → Prop
  | _, _, _ => False
theorem F64_eq (R : Caller) (lim n : Nat) (K : AVal → Heap → Prop) (a0 : AVal) (H : Heap) : F64 R lim n K a0 H = execI R lim n 12 (F64_Lp R lim n K) f64.body (argT [a0]) H (retW [(.tmp 2)] K) := by kernel_rfl
theorem F64_ob (R : Caller) (lim n : Nat) (K : AVal → Heap → Prop) : Oblig R lim n 12 (F64_Lp R lim n K) f64.body (retW [(.tmp 2)] K) := (oblig_nl (by kernel_rfl))
theorem F64_run {ap : FuncId → Option AFn} (hf : ap 64 = some (.code f64)) {n lim : Nat} {K : AVal → Heap → Prop} {a0 : AVal} {H : Heap} (h : F64 (Ahs.runT ap n) lim n K a0 H) : ∃ v H', Ahs.runT ap (n + 1) lim (.fn 64) [a0] H = some (v, H') ∧ K v H' := by
  rw [F64_eq] at h
  exact run_of_W hf (by kernel_rfl) (by kernel_rfl) (execI_sound f64.body _ _ _ _ (F64_ob _ _ _ K) (fun _ _ _ h => h) h)
def F65 (R : Caller) (lim n : Nat) (K : AVal → Heap → Prop) (a0 a1 : AVal) (H : Heap) : Prop :=
bindP (nilO a0) fun v1 =>
bindP (faddrO 0 v1) fun v2 =>
bindP (aindexAddr (some 4) 4 v2 a1) fun v3 =>
bindP (faddrO 0 v3) fun v4 =>
bindP (aload H none v4) fun v5 =>
bindP (abin .gtr v5 (.int .i64 0)) fun v6 =>
K v6 H
def F65_Lp (R : Caller) (lim n : Nat) (K : AVal → Heap → Prop) : Nat → Tm → Heap → Prop
  | _, _, _ => False
theorem F65_eq (R : Caller) (lim n : Nat) (K : AVal → Heap → Prop) (a0 a1 : AVal) (H : Heap) : F65 R lim n K a0 a1 H = execI R lim n 13 (F65_Lp R lim n K) f65.body (argT [a0, a1]) H (retW [(.tmp 4)] K) := by kernel_rfl
theorem F65_ob (R : Caller) (lim n : Nat) (K : AVal → Heap → Prop) : Oblig R lim n 13 (F65_Lp R lim n K) f65.body (retW [(.tmp 4)] K) := (oblig_nl (by kernel_rfl))
theorem F65_run {ap : FuncId → Option AFn} (hf : ap 65 = some (.code f65)) {n lim : Nat} {K : AVal → Heap → Prop} {a0 a1 : AVal} {H : Heap} (h : F65 (Ahs.runT ap n) lim n K a0 a1 H) : ∃ v H', Ahs.runT ap (n + 1) lim (.fn 65) [a0, a1] H = some (v, H') ∧ K v H' := by
  rw [F65_eq] at h
  exact run_of_W hf (by kernel_rfl) (by kernel_rfl) (execI_sound f65.body _ _ _ _ (F65_ob _ _ _ K) (fun _ _ _ h => h) h)
def F66_j0 (R : Caller) (lim n : Nat) (K : AVal → Heap → Prop) (t3 : AVal) (H : Heap) : Prop :=
bindP (abytesToStr H t3) fun v38 =>
K v38 H
def F66_j1 (R : Caller) (lim n : Nat) (K : AVal → Heap → Prop) (rec0 : AVal → AVal → AVal → AVal → Heap → Prop) (t3 t6 t7 t8 t9 t10 : AVal) (H : Heap) : Prop :=
bindP (asliceArr 10 1 t6 (some t7) none none) fun v61 =>
bind2 (aappend lim H [(.int .u8 0)] 1 false t3 v61) fun v62 H63 =>
bindP (abin .add t10 (.int .i64 1)) fun v64 =>
rec0 v62 t8 t9 v64 H63
def F66_s2 (R : Caller) (lim n : Nat) (K : AVal → Heap → Prop) (rec0 : AVal → AVal → AVal → AVal → Heap → Prop) (rec2 : AVal → AVal → AVal → AVal → AVal → AVal → AVal → Heap → Prop) (t3 t5 t6 t7 t8 t9 t10 : AVal) (H : Heap) : Prop :=
bindP (abin .gtr t5 (.int .u64 0)) fun v65 =>
bindP (boolOf v65) fun b66 =>
(b66 = true → (bindP (abin .sub t7 (.int .i64 1)) fun v67 =>
bindP (abin .and t5 (.int .u64 127)) fun v68 =>
bindP (convO .u8 v68) fun v69 =>
bindP (abin .or v69 (.int .u8 128)) fun v70 =>
bindP (aindexAddr (some 10) 1 t6 v67) fun v71 =>
bindP (astore lim H 1 v71 v70) fun H72 =>
bindP (abin .shr t5 (.int .u64 7)) fun v73 =>
rec2 t3 v73 t6 v67 t8 t9 t10 H72)) ∧
(b66 = false → (F66_j1 R lim n K rec0 t3 t6 t7 t8 t9 t10 H))
def F66_l2 (R : Caller) (lim n : Nat) (K : AVal → Heap → Prop) (rec0 : AVal → AVal → AVal → AVal → Heap → Prop) : Nat → AVal → AVal → AVal → AVal → AVal → AVal → AVal → Heap → Prop
  | 0, _, _, _, _, _, _, _, _ => False
  | m + 1, t3, t5, t6, t7, t8, t9, t10, H => F66_s2 R lim n K rec0 (F66_l2 R lim n K rec0 m) t3 t5 t6 t7 t8 t9 t10 H
def F66_s0 (R : Caller) (lim n : Nat) (K : AVal → Heap → Prop) (rec0 : AVal → AVal → AVal → AVal → Heap → Prop) (t3 t8 t9 t10 : AVal) (H : Heap) : Prop :=
bindP (abin .lss t10 t9) fun v39 =>
bindP (boolOf v39) fun b40 =>
(b40 = true → (bindP (aindexAddr none 1 t8 t10) fun v41 =>
bindP (aload H none v41) fun v42 =>
bindP (abin .and v42 (.int .u64 127)) fun v43 =>
bindP (convO .u8 v43) fun v44 =>
bindP (aindexAddr (some 10) 1 (.ptr (some (H.next, 0))) (.int .i64 9)) fun v45 =>
bindP (astore lim (H.push (.cells z8c4342)) 1 v45 v44) fun H46 =>
bindP (abin .shr v42 (.int .u64 7)) fun v47 =>
F66_l2 R lim n K rec0 n t3 v47 (.ptr (some (H.next, 0))) (.int .i64 9) t8 t9 t10 H46)) ∧
(b40 = false → (F66_j0 R lim n K t3 H))
def F66_l0 (R : Caller) (lim n : Nat) (K : AVal → Heap → Prop) : Nat → AVal → AVal → AVal → AVal → Heap → Prop
  | 0, _, _, _, _, _ => False
  | m + 1, t3, t8, t9, t10, H => F66_s0 R lim n K (F66_l0 R lim n K m) t3 t8 t9 t10 H
def F66 (R : Caller) (lim n : Nat) (K : AVal → Heap → Prop) (a0 : AVal) (H : Heap) : Prop :=
bindP (alen false a0) fun v1 =>
F66_l0 R lim n K n (.sl none 0 (.ex 0)) a0 v1 (.int .i64 0) H
def F66_Lp (R : Caller) (lim n : Nat) (K : AVal → Heap → Prop) : Nat → Tm → Heap → Prop
  | 0, T, H => F66_l0 R lim n K n (T 3) (T 8) (T 9) (T 10) H
  | _, _, _ => False
def F66_Lp0 (R : Caller) (lim n : Nat) (K : AVal → Heap → Prop) (rec0 : AVal → AVal → AVal → AVal → Heap → Prop) : Nat → Tm → Heap → Prop
  | 2, T, H => F66_l2 R lim n K rec0 n (T 3) (T 5) (T 6) (T 7) (T 8) (T 9) (T 10) H
  | _, _, _ => False
def F66_Lp2 (R : Caller) (lim n : Nat) (K : AVal → Heap → Prop) (rec0 : AVal → AVal → AVal → AVal → Heap → Prop) (rec2 : AVal → AVal → AVal → AVal → AVal → AVal → AVal → Heap → Prop) : Nat → Tm → Heap → Prop
  | _, _, _ => False
def F66_k0 (R : Caller) (lim n : Nat) (K : AVal → Heap → Prop) (rec0 : AVal → AVal → AVal → AVal → Heap → Prop) : Kt := fun ex T H => match ex with
  | .norm => rec0 (T 3) (T 8) (T 9) (T 10) H
  | ex => (kBlk 0 (kSeq (execI R lim n 40 (F66_Lp R lim n K) f66_p1) (retW [(.tmp 2)] K))) ex T H
def F66_k2 (R : Caller) (lim n : Nat) (K : AVal → Heap → Prop) (rec0 : AVal → AVal → AVal → AVal → Heap → Prop) (rec2 : AVal → AVal → AVal → AVal → AVal → AVal → AVal → Heap → Prop) : Kt := fun ex T H => match ex with
  | .norm => rec2 (T 3) (T 5) (T 6) (T 7) (T 8) (T 9) (T 10) H
  | ex => (kBlk 2 (kSeq (execI R lim n 40 (F66_Lp0 R lim n K rec0) f66_p3) (kBlk 1 (kSeq (execI R lim n 40 (F66_Lp0 R lim n K rec0) f66_p4) (F66_k0 R lim n K rec0))))) ex T H
theorem F66_s2_eq (R : Caller) (lim n : Nat) (K : AVal → Heap → Prop) (rec0 : AVal → AVal → AVal → AVal → Heap → Prop) (rec2 : AVal → AVal → AVal → AVal → AVal → AVal → AVal → Heap → Prop) (T : Tm) (H : Heap) : F66_s2 R lim n K rec0 rec2 (T 3) (T 5) (T 6) (T 7) (T 8) (T 9) (T 10) H = execI R lim n 40 (F66_Lp2 R lim n K rec0 rec2) f66_p2 T H (F66_k2 R lim n K rec0 rec2) := by kernel_rfl
theorem F66_l2_ok (R : Caller) (lim n : Nat) (K : AVal → Heap → Prop) (rec0 : AVal → AVal → AVal → AVal → Heap → Prop) {kw : Kt} (hk : ∀ ex T H, (kBlk 2 (kSeq (execI R lim n 40 (F66_Lp0 R lim n K rec0) f66_p3) (kBlk 1 (kSeq (execI R lim n 40 (F66_Lp0 R lim n K rec0) f66_p4) (F66_k0 R lim n K rec0))))) ex T H → kw ex T H) : ∀ (m : Nat) (T : Tm) (H : Heap), F66_l2 R lim n K rec0 m (T 3) (T 5) (T 6) (T 7) (T 8) (T 9) (T 10) H → loopW (execW R lim n 40 f66_p2) m T H kw
  | 0, _, _, h => False.elim h
  | m + 1, T, H, h => by
    have hb : ∀ ex T H, F66_k2 R lim n K rec0 (F66_l2 R lim n K rec0 m) ex T H → (fun ex T H => match ex with | .norm => loopW (execW R lim n 40 f66_p2) m T H kw | ex => kw ex T H : Kt) ex T H := by
      intro ex T H h
      cases ex with
      | norm => exact F66_l2_ok R lim n K rec0 hk m T H h
      | exit i => exact hk _ _ _ h
      | ret => exact hk _ _ _ h
    have h' : F66_s2 R lim n K rec0 (F66_l2 R lim n K rec0 m) (T 3) (T 5) (T 6) (T 7) (T 8) (T 9) (T 10) H := h
    rw [F66_s2_eq] at h'
    exact execI_sound f66_p2 T H _ _ (oblig_nl (by kernel_rfl)) hb h'
theorem F66_s0_eq (R : Caller) (lim n : Nat) (K : AVal → Heap → Prop) (rec0 : AVal → AVal → AVal → AVal → Heap → Prop) (T : Tm) (H : Heap) : F66_s0 R lim n K rec0 (T 3) (T 8) (T 9) (T 10) H = execI R lim n 40 (F66_Lp0 R lim n K rec0) f66_p0 T H (F66_k0 R lim n K rec0) := by kernel_rfl
theorem F66_l0_ok (R : Caller) (lim n : Nat) (K : AVal → Heap → Prop) {kw : Kt} (hk : ∀ ex T H, (kBlk 0 (kSeq (execI R lim n 40 (F66_Lp R lim n K) f66_p1) (retW [(.tmp 2)] K))) ex T H → kw ex T H) : ∀ (m : Nat) (T : Tm) (H : Heap), F66_l0 R lim n K m (T 3) (T 8) (T 9) (T 10) H → loopW (execW R lim n 40 f66_p0) m T H kw
  | 0, _, _, h => False.elim h
  | m + 1, T, H, h => by
    have hb : ∀ ex T H, F66_k0 R lim n K (F66_l0 R lim n K m) ex T H → (fun ex T H => match ex with | .norm => loopW (execW R lim n 40 f66_p0) m T H kw | ex => kw ex T H : Kt) ex T H := by
      intro ex T H h
      cases ex with
      | norm => exact F66_l0_ok R lim n K hk m T H h
      | exit i => exact hk _ _ _ h
      | ret => exact hk _ _ _ h
    have h' : F66_s0 R lim n K (F66_l0 R lim n K m) (T 3) (T 8) (T 9) (T 10) H := h
    rw [F66_s0_eq] at h'
    exact execI_sound f66_p0 T H _ _ ⟨(oblig_nl (by kernel_rfl)), ⟨(oblig_nl (by kernel_rfl)), ⟨⟨(oblig_nl (by kernel_rfl)), ⟨(oblig_nl (by kernel_rfl)), ⟨(oblig_nl (by kernel_rfl)), ⟨(oblig_nl (by kernel_rfl)), ⟨⟨(oblig_nl (by kernel_rfl)), (fun T H h => F66_l2_ok R lim n K (F66_l0 R lim n K m) (kBlk_mono (kSeqI_sound (oblig_nl (by kernel_rfl)) (kBlk_mono (kSeqI_sound (oblig_nl (by kernel_rfl)) (hb))))) _ T H h)⟩, (oblig_nl (by kernel_rfl))⟩⟩⟩⟩⟩, (oblig_nl (by kernel_rfl))⟩⟩⟩ hb h'
theorem F66_eq (R : Caller) (lim n : Nat) (K : AVal → Heap → Prop) (a0 : AVal) (H : Heap) : F66 R lim n K a0 H = execI R lim n 40 (F66_Lp R lim n K) f66.body (argT [a0]) H (retW [(.tmp 2)] K) := by kernel_rfl
theorem F66_ob (R : Caller) (lim n : Nat) (K : AVal → Heap → Prop) : Oblig R lim n 40 (F66_Lp R lim n K) f66.body (retW [(.tmp 2)] K) := ⟨(oblig_nl (by kernel_rfl)), ⟨(oblig_nl (by kernel_rfl)), ⟨⟨(oblig_nl (by kernel_rfl)), (fun T H h => F66_l0_ok R lim n K (kBlk_mono (kSeqI_sound (oblig_nl (by kernel_rfl)) (fun _ _ _ h => h))) _ T H h)⟩, (oblig_nl (by kernel_rfl))⟩⟩⟩
theorem F66_run {ap : FuncId → Option AFn} (hf : ap 66 = some (.code f66)) {n lim : Nat} {K : AVal → Heap → Prop} {a0 : AVal} {H : Heap} (h : F66 (Ahs.runT ap n) lim n K a0 H) : ∃ v H', Ahs.runT ap (n + 1) lim (.fn 66) [a0] H = some (v, H') ∧ K v H' := by
  rw [F66_eq] at h
  exact run_of_W hf (by kernel_rfl) (by kernel_rfl) (execI_sound f66.body _ _ _ _ (F66_ob _ _ _ K) (fun _ _ _ h => h) h)
def F67 (R : Caller) (lim n : Nat) (K : AVal → Heap → Prop) (a0 a1 : AVal) (H : Heap) : Prop :=
bind2 (R lim (.fn 101) [a0] H) fun v1 H2 =>
bind2 (R lim (.fn 102) [v1, a1] H2) fun v3 H4 =>
K v1 H4
def F67_Lp (R : Caller) (lim n : Nat) (K : AVal → Heap → Prop) : Nat → Tm → Heap → Prop
  | _, _, _ => False
theorem F67_eq (R : Caller) (lim n : Nat) (K : AVal → Heap → Prop) (a0 a1 : AVal) (H : Heap) : F67 R lim n K a0 a1 H = execI R lim n 12 (F67_Lp R lim n K) f67.body (argT [a0, a1]) H (retW [(.tmp 4)] K) := by kernel_rfl
theorem F67_ob (R : Caller) (lim n : Nat) (K : AVal → Heap → Prop) : Oblig R lim n 12 (F67_Lp R lim n K) f67.body (retW [(.tmp 4)] K) := (oblig_nl (by kernel_rfl))
theorem F67_run {ap : FuncId → Option AFn} (hf : ap 67 = some (.code f67)) {n lim : Nat} {K : AVal → Heap → Prop} {a0 a1 : AVal} {H : Heap} (h : F67 (Ahs.runT ap n) lim n K a0 a1 H) : ∃ v H', Ahs.runT ap (n + 1) lim (.fn 67) [a0, a1] H = some (v, H') ∧ K v H' := by
  rw [F67_eq] at h
  exact run_of_W hf (by kernel_rfl) (by kernel_rfl) (execI_sound f67.body _ _ _ _ (F67_ob _ _ _ K) (fun _ _ _ h => h) h)
def F68 (R : Caller) (lim n : Nat) (K : AVal → Heap → Prop) (a0 : AVal) (H : Heap) : Prop :=
bind2 (if (a0).cells.all (·.one) then some (.ptr (some (H.next, 0)), H.push (.cells (a0).cells)) else none) fun v1 H2 =>
bindP (some (AVal.fn 103 [] [v1])) fun v3 =>
K v3 H2
def F68_Lp (R : Caller) (lim n : Nat) (K : AVal → Heap → Prop) : Nat → Tm → Heap → Prop
  | _, _, _ => False
theorem F68_eq (R : Caller) (lim n : Nat) (K : AVal → Heap → Prop) (a0 : AVal) (H : Heap) : F68 R lim n K a0 H = execI R lim n 4 (F68_Lp R lim n K) f68.body (argT [a0]) H (retW [(.tmp 2)] K) := by kernel_rfl
theorem F68_ob (R : Caller) (lim n : Nat) (K : AVal → Heap → Prop) : Oblig R lim n 4 (F68_Lp R lim n K) f68.body (retW [(.tmp 2)] K) := (oblig_nl (by kernel_rfl))
theorem F68_run {ap : FuncId → Option AFn} (hf : ap 68 = some (.code f68)) {n lim : Nat} {K : AVal → Heap → Prop} {a0 : AVal} {H : Heap} (h : F68 (Ahs.runT ap n) lim n K a0 H) : ∃ v H', Ahs.runT ap (n + 1) lim (.fn 68) [a0] H = some (v, H') ∧ K v H' := by
  rw [F68_eq] at h
  exact run_of_W hf (by kernel_rfl) (by kernel_rfl) (execI_sound f68.body _ _ _ _ (F68_ob _ _ _ K) (fun _ _ _ h => h) h)
def F69 (R : Caller) (lim n : Nat) (K : AVal → Heap → Prop) (a0 a1 : AVal) (H : Heap) : Prop :=
bind2 (if (a0).cells.all (·.one) then some (.ptr (some (H.next, 0)), H.push (.cells (a0).cells)) else none) fun v1 H2 =>
bind2 (if (a1).cells.all (·.one) then some (.ptr (some (H2.next, 0)), H2.push (.cells (a1).cells)) else none) fun v3 H4 =>
bindP (asliceArr 8 1 v1 none none none) fun v5 =>
bindP (asliceArr 8 1 v3 none none none) fun v6 =>
bind2 (R lim (.fn 70) [v5, v6] H4) fun v7 H8 =>
K v7 H8
def F69_Lp (R : Caller) (lim n : Nat) (K : AVal → Heap → Prop) : Nat → Tm → Heap → Prop
  | _, _, _ => False
theorem F69_eq (R : Caller) (lim n : Nat) (K : AVal → Heap → Prop) (a0 a1 : AVal) (H : Heap) : F69 R lim n K a0 a1 H = execI R lim n 8 (F69_Lp R lim n K) f69.body (argT [a0, a1]) H (retW [(.tmp 4)] K) := by kernel_rfl
theorem F69_ob (R : Caller) (lim n : Nat) (K : AVal → Heap → Prop) : Oblig R lim n 8 (F69_Lp R lim n K) f69.body (retW [(.tmp 4)] K) := (oblig_nl (by kernel_rfl))
theorem F69_run {ap : FuncId → Option AFn} (hf : ap 69 = some (.code f69)) {n lim : Nat} {K : AVal → Heap → Prop} {a0 a1 : AVal} {H : Heap} (h : F69 (Ahs.runT ap n) lim n K a0 a1 H) : ∃ v H', Ahs.runT ap (n + 1) lim (.fn 69) [a0, a1] H = some (v, H') ∧ K v H' := by
  rw [F69_eq] at h
  exact run_of_W hf (by kernel_rfl) (by kernel_rfl) (execI_sound f69.body _ _ _ _ (F69_ob _ _ _ K) (fun _ _ _ h => h) h)
def F70 (R : Caller) (lim n : Nat) (K : AVal → Heap → Prop) (a0 a1 : AVal) (H : Heap) : Prop :=
bind2 (R lim (.fn 104) [a0, a1] H) fun v1 H2 =>
K v1 H2
def F70_Lp (R : Caller) (lim n : Nat) (K : AVal → Heap → Prop) : Nat → Tm → Heap → Prop
  | _, _, _ => False
theorem F70_eq (R : Caller) (lim n : Nat) (K : AVal → Heap → Prop) (a0 a1 : AVal) (H : Heap) : F70 R lim n K a0 a1 H = execI R lim n 8 (F70_Lp R lim n K) f70.body (argT [a0, a1]) H (retW [(.tmp 4)] K) := by kernel_rfl
theorem F70_ob (R : Caller) (lim n : Nat) (K : AVal → Heap → Prop) : Oblig R lim n 8 (F70_Lp R lim n K) f70.body (retW [(.tmp 4)] K) := (oblig_nl (by kernel_rfl))
theorem F70_run {ap : FuncId → Option AFn} (hf : ap 70 = some (.code f70)) {n lim : Nat} {K : AVal → Heap → Prop} {a0 a1 : AVal} {H : Heap} (h : F70 (Ahs.runT ap n) lim n K a0 a1 H) : ∃ v H', Ahs.runT ap (n + 1) lim (.fn 70) [a0, a1] H = some (v, H') ∧ K v H' := by
  rw [F70_eq] at h
  exact run_of_W hf (by kernel_rfl) (by kernel_rfl) (execI_sound f70.body _ _ _ _ (F70_ob _ _ _ K) (fun _ _ _ h => h) h)
def F71_j0 (R : Caller) (lim n : Nat) (K : AVal → Heap → Prop) (t3 : AVal) (H : Heap) : Prop :=
K t3 H
def F71_s0 (R : Caller) (lim n : Nat) (K : AVal → Heap → Prop) (rec0 : AVal → AVal → AVal → Heap → Prop) (t0 t3 t4 : AVal) (H : Heap) : Prop :=
bindP (alen false t0) fun v10 =>
bindP (abin .lss t4 v10) fun v11 =>
bindP (boolOf v11) fun b12 =>
(b12 = true → (bindP (aindexAddr none 1 t0 t4) fun v13 =>
bindP (aload H none v13) fun v14 =>
bind2 (R lim (.fn 72) [v14] H) fun v15 H16 =>
bindP (abin .add t3 v15) fun v17 =>
bindP (abin .add t4 (.int .i64 1)) fun v18 =>
rec0 t0 v17 v18 H16)) ∧
(b12 = false → (F71_j0 R lim n K t3 H))
def F71_l0 (R : Caller) (lim n : Nat) (K : AVal → Heap → Prop) : Nat → AVal → AVal → AVal → Heap → Prop
  | 0, _, _, _, _ => False
  | m + 1, t0, t3, t4, H => F71_s0 R lim n K (F71_l0 R lim n K m) t0 t3 t4 H
def F71 (R : Caller) (lim n : Nat) (K : AVal → Heap → Prop) (a0 : AVal) (H : Heap) : Prop :=
F71_l0 R lim n K n a0 (.str []) (.int .i64 0) H
def F71_Lp (R : Caller) (lim n : Nat) (K : AVal → Heap → Prop) : Nat → Tm → Heap → Prop
  | 0, T, H => F71_l0 R lim n K n (T 0) (T 3) (T 4) H
  | _, _, _ => False
def F71_Lp0 (R : Caller) (lim n : Nat) (K : AVal → Heap → Prop) (rec0 : AVal → AVal → AVal → Heap → Prop) : Nat → Tm → Heap → Prop
  | _, _, _ => False
def F71_k0 (R : Caller) (lim n : Nat) (K : AVal → Heap → Prop) (rec0 : AVal → AVal → AVal → Heap → Prop) : Kt := fun ex T H => match ex with
  | .norm => rec0 (T 0) (T 3) (T 4) H
  | ex => (kBlk 0 (kSeq (execI R lim n 19 (F71_Lp R lim n K) f71_p1) (retW [(.tmp 2)] K))) ex T H
theorem F71_s0_eq (R : Caller) (lim n : Nat) (K : AVal → Heap → Prop) (rec0 : AVal → AVal → AVal → Heap → Prop) (T : Tm) (H : Heap) : F71_s0 R lim n K rec0 (T 0) (T 3) (T 4) H = execI R lim n 19 (F71_Lp0 R lim n K rec0) f71_p0 T H (F71_k0 R lim n K rec0) := by kernel_rfl
theorem F71_l0_ok (R : Caller) (lim n : Nat) (K : AVal → Heap → Prop) {kw : Kt} (hk : ∀ ex T H, (kBlk 0 (kSeq (execI R lim n 19 (F71_Lp R lim n K) f71_p1) (retW [(.tmp 2)] K))) ex T H → kw ex T H) : ∀ (m : Nat) (T : Tm) (H : Heap), F71_l0 R lim n K m (T 0) (T 3) (T 4) H → loopW (execW R lim n 19 f71_p0) m T H kw
  | 0, _, _, h => False.elim h
  | m + 1, T, H, h => by
    have hb : ∀ ex T H, F71_k0 R lim n K (F71_l0 R lim n K m) ex T H → (fun ex T H => match ex with | .norm => loopW (execW R lim n 19 f71_p0) m T H kw | ex => kw ex T H : Kt) ex T H := by
      intro ex T H h
      cases ex with
      | norm => exact F71_l0_ok R lim n K hk m T H h
      | exit i => exact hk _ _ _ h
      | ret => exact hk _ _ _ h
    have h' : F71_s0 R lim n K (F71_l0 R lim n K m) (T 0) (T 3) (T 4) H := h
    rw [F71_s0_eq] at h'
    exact execI_sound f71_p0 T H _ _ (oblig_nl (by kernel_rfl)) hb h'
theorem F71_eq (R : Caller) (lim n : Nat) (K : AVal → Heap → Prop) (a0 : AVal) (H : Heap) : F71 R lim n K a0 H = execI R lim n 19 (F71_Lp R lim n K) f71.body (argT [a0]) H (retW [(.tmp 2)] K) := by kernel_rfl
theorem F71_ob (R : Caller) (lim n : Nat) (K : AVal → Heap → Prop) : Oblig R lim n 19 (F71_Lp R lim n K) f71.body (retW [(.tmp 2)] K) := ⟨(oblig_nl (by kernel_rfl)), ⟨(oblig_nl (by kernel_rfl)), ⟨⟨(oblig_nl (by kernel_rfl)), (fun T H h => F71_l0_ok R lim n K (kBlk_mono (kSeqI_sound (oblig_nl (by kernel_rfl)) (fun _ _ _ h => h))) _ T H h)⟩, (oblig_nl (by kernel_rfl))⟩⟩⟩
theorem F71_run {ap : FuncId → Option AFn} (hf : ap 71 = some (.code f71)) {n lim : Nat} {K : AVal → Heap → Prop} {a0 : AVal} {H : Heap} (h : F71 (Ahs.runT ap n) lim n K a0 H) : ∃ v H', Ahs.runT ap (n + 1) lim (.fn 71) [a0] H = some (v, H') ∧ K v H' := by
  rw [F71_eq] at h
  exact run_of_W hf (by kernel_rfl) (by kernel_rfl) (execI_sound f71.body _ _ _ _ (F71_ob _ _ _ K) (fun _ _ _ h => h) h)
def F72_j0 (R : Caller) (lim n : Nat) (K : AVal → Heap → Prop) (t3 : AVal) (H : Heap) : Prop :=
K t3 H
def F72_s0 (R : Caller) (lim n : Nat) (K : AVal → Heap → Prop) (rec0 : AVal → AVal → Heap → Prop) (t0 t3 : AVal) (H : Heap) : Prop :=
bindP (abin .gtr t0 (.int .u64 127)) fun v16 =>
bindP (boolOf v16) fun b17 =>
(b17 = true → (bindP (abin .quo t0 (.int .u64 128)) fun v18 =>
bindP (abin .rem v18 (.int .u64 128)) fun v19 =>
bindP (abin .add (.int .u64 128) v19) fun v20 =>
bindP (convO .u8 v20) fun v21 =>
bind2 ((fillV [(.int .u8 0)] [(0, 1, v21)]).map fun cs => (.sl (some (H.next, 0)) 1 (.ex 1), H.push (.cells cs))) fun v22 H23 =>
bindP (abytesToStr H23 v22) fun v24 =>
bindP (abin .add v24 t3) fun v25 =>
rec0 v18 v25 H23)) ∧
(b17 = false → (F72_j0 R lim n K t3 H))
def F72_l0 (R : Caller) (lim n : Nat) (K : AVal → Heap → Prop) : Nat → AVal → AVal → Heap → Prop
  | 0, _, _, _ => False
  | m + 1, t0, t3, H => F72_s0 R lim n K (F72_l0 R lim n K m) t0 t3 H
def F72 (R : Caller) (lim n : Nat) (K : AVal → Heap → Prop) (a0 : AVal) (H : Heap) : Prop :=
bindP (abin .rem a0 (.int .u64 128)) fun v1 =>
bindP (convO .u8 v1) fun v2 =>
bind2 ((fillV [(.int .u8 0)] [(0, 1, v2)]).map fun cs => (.sl (some (H.next, 0)) 1 (.ex 1), H.push (.cells cs))) fun v3 H4 =>
bindP (abytesToStr H4 v3) fun v5 =>
F72_l0 R lim n K n a0 v5 H4
def F72_Lp (R : Caller) (lim n : Nat) (K : AVal → Heap → Prop) : Nat → Tm → Heap → Prop
  | 0, T, H => F72_l0 R lim n K n (T 0) (T 3) H
  | _, _, _ => False
def F72_Lp0 (R : Caller) (lim n : Nat) (K : AVal → Heap → Prop) (rec0 : AVal → AVal → Heap → Prop) : Nat → Tm → Heap → Prop
  | _, _, _ => False
def F72_k0 (R : Caller) (lim n : Nat) (K : AVal → Heap → Prop) (rec0 : AVal → AVal → Heap → Prop) : Kt := fun ex T H => match ex with
  | .norm => rec0 (T 0) (T 3) H
  | ex => (kBlk 0 (kSeq (execI R lim n 22 (F72_Lp R lim n K) f72_p1) (retW [(.tmp 2)] K))) ex T H
theorem F72_s0_eq (R : Caller) (lim n : Nat) (K : AVal → Heap → Prop) (rec0 : AVal → AVal → Heap → Prop) (T : Tm) (H : Heap) : F72_s0 R lim n K rec0 (T 0) (T 3) H = execI R lim n 22 (F72_Lp0 R lim n K rec0) f72_p0 T H (F72_k0 R lim n K rec0) := by kernel_rfl
theorem F72_l0_ok (R : Caller) (lim n : Nat) (K : AVal → Heap → Prop) {kw : Kt} (hk : ∀ ex T H, (kBlk 0 (kSeq (execI R lim n 22 (F72_Lp R lim n K) f72_p1) (retW [(.tmp 2)] K))) ex T H → kw ex T H) : ∀ (m : Nat) (T : Tm) (H : Heap), F72_l0 R lim n K m (T 0) (T 3) H → loopW (execW R lim n 22 f72_p0) m T H kw
  | 0, _, _, h => False.elim h
  | m + 1, T, H, h => by
    have hb : ∀ ex T H, F72_k0 R lim n K (F72_l0 R lim n K m) ex T H → (fun ex T H => match ex with | .norm => loopW (execW R lim n 22 f72_p0) m T H kw | ex => kw ex T H : Kt) ex T H := by
      intro ex T H h
      cases ex with
      | norm => exact F72_l0_ok R lim n K hk m T H h
      | exit i => exact hk _ _ _ h
      | ret => exact hk _ _ _ h
    have h' : F72_s0 R lim n K (F72_l0 R lim n K m) (T 0) (T 3) H := h
    rw [F72_s0_eq] at h'
    exact execI_sound f72_p0 T H _ _ (oblig_nl (by kernel_rfl)) hb h'
theorem F72_eq (R : Caller) (lim n : Nat) (K : AVal → Heap → Prop) (a0 : AVal) (H : Heap) : F72 R lim n K a0 H = execI R lim n 22 (F72_Lp R lim n K) f72.body (argT [a0]) H (retW [(.tmp 2)] K) := by kernel_rfl
theorem F72_ob (R : Caller) (lim n : Nat) (K : AVal → Heap → Prop) : Oblig R lim n 22 (F72_Lp R lim n K) f72.body (retW [(.tmp 2)] K) := ⟨(oblig_nl (by kernel_rfl)), ⟨(oblig_nl (by kernel_rfl)), ⟨(fun T H h => F72_l0_ok R lim n K (kBlk_mono (kSeqI_sound (oblig_nl (by kernel_rfl)) (fun _ _ _ h => h))) _ T H h), (oblig_nl (by kernel_rfl))⟩⟩⟩
theorem F72_run {ap : FuncId → Option AFn} (hf : ap 72 = some (.code f72)) {n lim : Nat} {K : AVal → Heap → Prop} {a0 : AVal} {H : Heap} (h : F72 (Ahs.runT ap n) lim n K a0 H) : ∃ v H', Ahs.runT ap (n + 1) lim (.fn 72) [a0] H = some (v, H') ∧ K v H' := by
  rw [F72_eq] at h
  exact run_of_W hf (by kernel_rfl) (by kernel_rfl) (execI_sound f72.body _ _ _ _ (F72_ob _ _ _ K) (fun _ _ _ h => h) h)
def F75 (R : Caller) (lim n : Nat) (K : AVal → Heap → Prop) (a0 a1 a2 : AVal) (H : Heap) : Prop :=
bind2 (if (a0).cells.all (·.one) then some (.ptr (some (H.next, 0)), H.push (.cells (a0).cells)) else none) fun v1 H2 =>
bind2 (if (a1).cells.all (·.one) then some (.ptr (some (H2.next, 0)), H2.push (.cells (a1).cells)) else none) fun v3 H4 =>
bindP (faddrO 0 v3) fun v5 =>
bindP (aload H4 none v5) fun v6 =>
bindP (aload H4 none a2) fun v7 =>
bindP (abin .eql v6 v7) fun v8 =>
K v8 H4
def F75_Lp (R : Caller) (lim n : Nat) (K : AVal → Heap → Prop) : Nat → Tm → Heap → Prop
  | _, _, _ => False
theorem F75_eq (R : Caller) (lim n : Nat) (K : AVal → Heap → Prop) (a0 a1 a2 : AVal) (H : Heap) : F75 R lim n K a0 a1 a2 H = execI R lim n 10 (F75_Lp R lim n K) f75.body (argT [a0, a1, a2]) H (retW [(.tmp 5)] K) := by kernel_rfl
theorem F75_ob (R : Caller) (lim n : Nat) (K : AVal → Heap → Prop) : Oblig R lim n 10 (F75_Lp R lim n K) f75.body (retW [(.tmp 5)] K) := (oblig_nl (by kernel_rfl))
theorem F75_run {ap : FuncId → Option AFn} (hf : ap 75 = some (.code f75)) {n lim : Nat} {K : AVal → Heap → Prop} {a0 a1 a2 : AVal} {H : Heap} (h : F75 (Ahs.runT ap n) lim n K a0 a1 a2 H) : ∃ v H', Ahs.runT ap (n + 1) lim (.fn 75) [a0, a1, a2] H = some (v, H') ∧ K v H' := by
  rw [F75_eq] at h
  exact run_of_W hf (by kernel_rfl) (by kernel_rfl) (execI_sound f75.body _ _ _ _ (F75_ob _ _ _ K) (fun _ _ _ h => h) h)
def F78 (R : Caller) (lim n : Nat) (K : AVal → Heap → Prop) (a0 a1 a2 : AVal) (H : Heap) : Prop :=
bindP (abin .geq a0 a1) fun v1 =>
bindP (gd (some (v1, true)) (some a0)) fun v2 =>
bindP (gd (some (v1, true)) (some a2)) fun v3 =>
bindP (gd (some (v1, true)) (abin .leq v2 v3)) fun v4 =>
bindP (pickO v1 v4 (.bool false)) fun v5 =>
K v5 H
def F78_Lp (R : Caller) (lim n : Nat) (K : AVal → Heap → Prop) : Nat → Tm → Heap → Prop
  | _, _, _ => False
theorem F78_eq (R : Caller) (lim n : Nat) (K : AVal → Heap → Prop) (a0 a1 a2 : AVal) (H : Heap) : F78 R lim n K a0 a1 a2 H = execI R lim n 15 (F78_Lp R lim n K) f78.body (argT [a0, a1, a2]) H (retW [(.tmp 6)] K) := by kernel_rfl
theorem F78_ob (R : Caller) (lim n : Nat) (K : AVal → Heap → Prop) : Oblig R lim n 15 (F78_Lp R lim n K) f78.body (retW [(.tmp 6)] K) := (oblig_nl (by kernel_rfl))
theorem F78_run {ap : FuncId → Option AFn} (hf : ap 78 = some (.code f78)) {n lim : Nat} {K : AVal → Heap → Prop} {a0 a1 a2 : AVal} {H : Heap} (h : F78 (Ahs.runT ap n) lim n K a0 a1 a2 H) : ∃ v H', Ahs.runT ap (n + 1) lim (.fn 78) [a0, a1, a2] H = some (v, H') ∧ K v H' := by
  rw [F78_eq] at h
  exact run_of_W hf (by kernel_rfl) (by kernel_rfl) (execI_sound f78.body _ _ _ _ (F78_ob _ _ _ K) (fun _ _ _ h => h) h)
end Go.Proofs.Ytjflpnahjooffaa.cat
