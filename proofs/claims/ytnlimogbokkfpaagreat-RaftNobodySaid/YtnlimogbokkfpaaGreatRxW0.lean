/- What each function comes to, as one formula; printed by genw.py. -/
import Derived.Test.YtnlimogbokkfpaaGreatRxAp
import Derived.Test.YtnlimogbokkfpaaGreatChsW1
set_option maxRecDepth 100000
set_option linter.unusedVariables false
namespace Go.Proofs.YtnlimogbokkfpaaGreat.rnob
open Go.Ahs
def zf04ada : List AVal := [(.int .u8 0), (.int .u8 0), (.int .u8 0), (.int .u8 0), (.int .i64 0), (.int .u8 0), (.int .u8 0), (.int .u8 0), (.int .u64 0), (.int .u64 0), (.int .u64 0), (.int .u64 0), (.int .u64 0), (.bool false), (.int .u8 0), (.int .u8 0), (.sl none 0 (.ex 0)), (.str []), (.int .u8 0), (.int .u8 0), (.int .u8 0), (.int .u8 0), (.int .u8 0), (.int .u8 0), (.int .u8 0), (.int .u8 0), (.str []), (.int .u64 0), (.int .u64 0), (.int .u64 0), (.int .u8 0), (.str []), (.str []), (.str []), (.str []), (.str [])]
def z79a6db : List AVal := [(.int .u8 0), (.int .u64 0), (.int .u8 0), (.ptr none), (.int .u64 0), (.int .u64 0), (.int .u8 0), (.str []), (.str []), (.str []), (.str []), (.str []), (.int .u64 0), (.int .i64 0), (.int .u8 0), (.int .i64 0), (.int .i64 0), (.int .u8 0), (.map none), (.map none), (.int .u64 0), (.ptr none), (.int .u8 0), (.int .u64 0), (.int .u64 0), (.int .u8 0), (.str []), (.str []), (.str []), (.str []), (.str []), (.bool false), (.bool false), (.bool false), (.bool false), (.bool false)]
def z652358 : List AVal := [(.sl none 0 (.ex 0)), (.bool false), (.int .u64 0), (.int .u64 0), (.int .u8 0), (.str []), (.str []), (.str []), (.str []), (.str []), (.sl none 0 (.ex 0)), (.bool false), (.sl none 0 (.ex 0))]
def z903586 : List AVal := [(.int .u64 0), (.int .u64 0), (.int .u8 0), (.int .u8 0), (.int .u8 0), (.int .u8 0), (.int .u8 0), (.int .u8 0), (.int .u8 0), (.int .u8 0), (.int .u8 0), (.int .u8 0), (.str [])]
def z63cf7f : List AVal := [(.sl none 0 (.ex 0)), (.bool false), (.int .u64 0), (.int .u64 0), (.int .u8 0), (.str []), (.str []), (.str []), (.str []), (.str []), (.sl none 0 (.ex 0)), (.bool false), (.sl none 0 (.ex 0)), (.sl none 0 (.ex 0)), (.bool false), (.int .u64 0), (.int .u64 0), (.int .u8 0), (.str []), (.str []), (.str []), (.str []), (.str []), (.sl none 0 (.ex 0)), (.bool false), (.sl none 0 (.ex 0)), (.sl none 0 (.ex 0)), (.bool false), (.int .u64 0), (.int .u64 0), (.int .u8 0), (.str []), (.str []), (.str []), (.str []), (.str []), (.sl none 0 (.ex 0)), (.bool false), (.sl none 0 (.ex 0)), (.sl none 0 (.ex 0)), (.bool false), (.int .u64 0), (.int .u64 0), (.int .u8 0), (.str []), (.str []), (.str []), (.str []), (.str []), (.sl none 0 (.ex 0)), (.bool false), (.sl none 0 (.ex 0)), (.sl none 0 (.ex 0)), (.bool false), (.int .u64 0), (.int .u64 0), (.int .u8 0), (.str []), (.str []), (.str []), (.str []), (.str []), (.sl none 0 (.ex 0)), (.bool false), (.sl none 0 (.ex 0))]
def z15c467 : List AVal := [(.int .u64 0), (.int .u64 0), (.int .u8 0), (.str []), (.str []), (.str []), (.str []), (.str [])]
def zdff0c5 : List AVal := [(.int .u8 0), (.int .u8 0), (.int .u8 0), (.int .u8 0), (.int .u8 0), (.int .u8 0), (.int .u8 0), (.int .u8 0)]
def zced54c : List AVal := [(.int .u8 0), (.int .u8 0), (.int .u8 0), (.int .u64 0), (.int .u64 0), (.int .u64 0), (.int .u64 0), (.int .u64 0), (.bool false), (.int .u8 0), (.int .u8 0), (.sl none 0 (.ex 0)), (.str [])]
def F8_j0 (R : Caller) (lim n : Nat) (K : AVal → Heap → Prop) (H : Heap) : Prop :=
bind2 (R lim (.fn 23) [] H) fun v300 H301 =>
K v300 H301
def F8_j1 (R : Caller) (lim n : Nat) (K : AVal → Heap → Prop) (rec0 : AVal → AVal → AVal → AVal → Heap → Prop) (t1 t5 t10 t13 t15 t16 t17 t27 t28 t29 : AVal) (H : Heap) : Prop :=
bindP (gd (some (t10, false)) (some t13)) fun v472 =>
bindP (gd (some (t10, false)) (abin .neq v472 (.int .u8 2))) fun v473 =>
bindP (pickO t10 (.bool true) v473) fun v474 =>
bindP (gd (some (v474, false)) (some t15)) fun v475 =>
bindP (pickO v474 (.bool true) v475) fun v476 =>
bindP (gd (some (v476, false)) (some t5)) fun v477 =>
bindP (gd (some (v476, false)) (faddrO 27 t1)) fun v478 =>
bindP (gd (some (v476, false)) (aload H none v478)) fun v479 =>
bind2 (gd2 (some (v476, false)) H (R lim (.fn 18) [v477, v479] H)) fun v480 H481 =>
bindP (pickO v476 (.bool true) v480) fun v482 =>
bindP (gd (some (v482, false)) (some t5)) fun v483 =>
bindP (gd (some (v482, false)) (faddrO 28 t1)) fun v484 =>
bindP (gd (some (v482, false)) (aload H481 (some 8) v484)) fun v485 =>
bind2 (gd2 (some (v482, false)) H481 (R lim (.fn 46) [v483, v485] H481)) fun v486 H487 =>
bindP (gd (some (v482, false)) (abin .neq v486 (.int .i64 1))) fun v488 =>
bindP (pickO v482 (.bool true) v488) fun v489 =>
bindP (gd (some (v489, false)) (some t5)) fun v490 =>
bind2 (gd2 (some (v489, false)) H487 (R lim (.fn 34) [v490] H487)) fun v491 H492 =>
bindP (gd (some (v489, false)) (abin .neq v491 (.int .u64 0))) fun v493 =>
bindP (pickO v489 (.bool true) v493) fun v494 =>
bindP (gd (some (v494, false)) (some t5)) fun v495 =>
bind2 (gd2 (some (v494, false)) H492 (R lim (.fn 22) [v495] H492)) fun v496 H497 =>
bindP (gd (some (v494, false)) (abin .neq v496 (.int .u8 0))) fun v498 =>
bindP (pickO v494 (.bool true) v498) fun v499 =>
bindP (gd (some (v499, false)) (some t5)) fun v500 =>
bind2 (gd2 (some (v499, false)) H497 (R lim (.fn 13) [v500] H497)) fun v501 H502 =>
bindP (pickO v499 (.bool true) v501) fun v503 =>
bindP (gd (some (v503, false)) (some t5)) fun v504 =>
bind2 (gd2 (some (v503, false)) H502 (R lim (.fn 47) [v504] H502)) fun v505 H506 =>
bindP (gd (some (v503, false)) (abin .neq v505 (.int .u8 0))) fun v507 =>
bindP (pickO v503 (.bool true) v507) fun v508 =>
bindP (gd (some (v508, false)) (some t5)) fun v509 =>
bind2 (gd2 (some (v508, false)) H506 (R lim (.fn 14) [v509] H506)) fun v510 H511 =>
bindP (gd (some (v508, false)) (abin .neq v510 (.int .u64 0))) fun v512 =>
bindP (pickO v508 (.bool true) v512) fun v513 =>
bindP (gd (some (v513, false)) (some t5)) fun v514 =>
bind2 (gd2 (some (v513, false)) H511 (R lim (.fn 21) [v514] H511)) fun v515 H516 =>
bindP (gd (some (v513, false)) (abin .neq v515 (.int .u8 0))) fun v517 =>
bindP (pickO v513 (.bool true) v517) fun v518 =>
bindP (gd (some (v518, false)) (some t5)) fun v519 =>
bindP (gd (some (v518, false)) (faddrO 27 t1)) fun v520 =>
bindP (gd (some (v518, false)) (aload H516 none v520)) fun v521 =>
bind2 (gd2 (some (v518, false)) H516 (R lim (.fn 48) [v519, v521] H516)) fun v522 H523 =>
bindP (gd (some (v518, false)) (abin .neq v522 (.int .u8 0))) fun v524 =>
bindP (pickO v518 (.bool true) v524) fun v525 =>
bindP (gd (some (v525, false)) (some t5)) fun v526 =>
bindP (gd (some (v525, false)) (faddrO 3 t1)) fun v527 =>
bindP (gd (some (v525, false)) (aload H523 none v527)) fun v528 =>
bind2 (gd2 (some (v525, false)) H523 (R lim (.fn 49) [v526, v528] H523)) fun v529 H530 =>
bindP (gd (some (v525, false)) (abin .neq v529 (.int .u64 0))) fun v531 =>
bindP (pickO v525 (.bool true) v531) fun v532 =>
bindP (gd (some (v532, false)) (some t5)) fun v533 =>
bind2 (gd2 (some (v532, false)) H530 (R lim (.fn 11) [v533] H530)) fun v534 H535 =>
bindP (gd (some (v532, false)) (abin .neq v534 (.int .i64 0))) fun v536 =>
bindP (pickO v532 (.bool true) v536) fun v537 =>
bindP (gd (some (v537, false)) (some t5)) fun v538 =>
bind2 (gd2 (some (v537, false)) H535 (R lim (.fn 35) [v538, (.int .u64 0), (.int .i64 9)] H535)) fun v539 H540 =>
bindP (gd (some (v537, false)) (alen false v539)) fun v541 =>
bindP (gd (some (v537, false)) (abin .neq v541 (.int .i64 0))) fun v542 =>
bindP (pickO v537 (.bool true) v542) fun v543 =>
bindP (gd (some (v543, false)) (some t16)) fun v544 =>
bindP (gd (some (v543, false)) (abin .neq v544 (.int .u64 0))) fun v545 =>
bindP (pickO v543 (.bool true) v545) fun v546 =>
bindP (gd (some (v546, false)) (some t17)) fun v547 =>
bindP (gd (some (v546, false)) (abin .neq v547 (.int .u64 0))) fun v548 =>
bindP (pickO v546 (.bool true) v548) fun v549 =>
bindP (gd (some (v549, false)) (some t5)) fun v550 =>
bind2 (gd2 (some (v549, false)) H540 (R lim (.fn 32) [v550] H540)) fun v551 H552 =>
bindP (gd (some (v549, false)) (buildO z15c467 [])) fun v553 =>
bindP (gd (some (v549, false)) (eqvO true (.cells [(.int .u64), (.int .u64), (.int .u8), .str, .str, .str, .str, .str]) v551 v553)) fun v554 =>
bindP (pickO v549 (.bool true) v554) fun v555 =>
bindP (boolOf v555) fun b556 =>
(b556 = true → (K (.bool false) H552)) ∧
(b556 = false → (bindP (abin .add t29 (.int .i64 1)) fun v557 =>
rec0 t1 t27 t28 v557 H552))
def F8_s2 (R : Caller) (lim n : Nat) (K : AVal → Heap → Prop) (rec0 : AVal → AVal → AVal → AVal → Heap → Prop) (rec2 : AVal → AVal → AVal → AVal → AVal → AVal → AVal → AVal → AVal → AVal → AVal → AVal → AVal → Heap → Prop) (t1 t5 t10 t13 t15 t16 t17 t27 t28 t29 t82 t83 t84 : AVal) (H : Heap) : Prop :=
bindP (abin .lss t84 t83) fun v558 =>
bindP (boolOf v558) fun b559 =>
(b559 = true → (bindP (aindexAddr none 13 t82 t84) fun v560 =>
bindP (aload H (some 13) v560) fun v561 =>
bindP (astore lim (H.push (.cells z652358)) 13 (.ptr (some (H.next, 0))) v561) fun H562 =>
bindP (faddrO 0 (.ptr (some (H.next, 0)))) fun v563 =>
bindP (aload H562 none v563) fun v564 =>
bindP (alen false v564) fun v565 =>
bindP (faddrO 10 (.ptr (some (H.next, 0)))) fun v566 =>
bindP (aload H562 none v566) fun v567 =>
bindP (alen false v567) fun v568 =>
bindP (abin .add v565 v568) fun v569 =>
bindP (faddrO 12 (.ptr (some (H.next, 0)))) fun v570 =>
bindP (aload H562 none v570) fun v571 =>
bindP (alen false v571) fun v572 =>
bindP (abin .add v569 v572) fun v573 =>
bindP (abin .neq v573 (.int .i64 0)) fun v574 =>
bindP (gd (some (v574, false)) (faddrO 1 (.ptr (some (H.next, 0))))) fun v575 =>
bindP (gd (some (v574, false)) (aload H562 none v575)) fun v576 =>
bindP (pickO v574 (.bool true) v576) fun v577 =>
bindP (gd (some (v577, false)) (faddrO 11 (.ptr (some (H.next, 0))))) fun v578 =>
bindP (gd (some (v577, false)) (aload H562 none v578)) fun v579 =>
bindP (pickO v577 (.bool true) v579) fun v580 =>
bindP (boolOf v580) fun b581 =>
(b581 = true → (K (.bool false) H562)) ∧
(b581 = false → (bindP (abin .add t84 (.int .i64 1)) fun v582 =>
rec2 t1 t5 t10 t13 t15 t16 t17 t27 t28 t29 t82 t83 v582 H562)))) ∧
(b559 = false → (F8_j1 R lim n K rec0 t1 t5 t10 t13 t15 t16 t17 t27 t28 t29 H))
def F8_l2 (R : Caller) (lim n : Nat) (K : AVal → Heap → Prop) (rec0 : AVal → AVal → AVal → AVal → Heap → Prop) : Nat → AVal → AVal → AVal → AVal → AVal → AVal → AVal → AVal → AVal → AVal → AVal → AVal → AVal → Heap → Prop
  | 0, _, _, _, _, _, _, _, _, _, _, _, _, _, _ => False
  | m + 1, t1, t5, t10, t13, t15, t16, t17, t27, t28, t29, t82, t83, t84, H => F8_s2 R lim n K rec0 (F8_l2 R lim n K rec0 m) t1 t5 t10 t13 t15 t16 t17 t27 t28 t29 t82 t83 t84 H
def F8_s0 (R : Caller) (lim n : Nat) (K : AVal → Heap → Prop) (rec0 : AVal → AVal → AVal → AVal → Heap → Prop) (t1 t27 t28 t29 : AVal) (H : Heap) : Prop :=
bindP (abin .lss t29 t28) fun v302 =>
bindP (boolOf v302) fun b303 =>
(b303 = true → (bindP (aindexAddr none 1 t27 t29) fun v304 =>
bindP (aload H none v304) fun v305 =>
bindP (faddrO 4 t1) fun v306 =>
bindP (aload H none v306) fun v307 =>
bind2 (R lim (.fn 16) [v305, v307] H) fun v308 H309 =>
bindP (astore lim (H309.push (.cells z652358)) 13 (.ptr (some (H309.next, 0))) v308) fun H310 =>
bindP (faddrO 5 t1) fun v311 =>
bindP (aload H310 (some 13) v311) fun v312 =>
bindP (faddrO 4 t1) fun v313 =>
bindP (aload H310 none v313) fun v314 =>
bind2 (R lim (.fn 15) [v305, v312, v314] H310) fun v315 H316 =>
bindP (astore lim (H316.push (.cells z652358)) 13 (.ptr (some (H316.next, 0))) v315) fun H317 =>
bindP (faddrO 1 t1) fun v318 =>
bindP (aload H317 none v318) fun v319 =>
bindP (faddrO 2 t1) fun v320 =>
bindP (aload H317 none v320) fun v321 =>
bindP (faddrO 18 t1) fun v322 =>
bindP (aload H317 (some 8) v322) fun v323 =>
bindP (faddrO 26 t1) fun v324 =>
bindP (aload H317 none v324) fun v325 =>
bind2 (R lim (.fn 44) [v305, v319, v321, v323, v325] H317) fun v326 H327 =>
bindP (extO 0 v326) fun v328 =>
bindP (extO 1 v326) fun v329 =>
bindP (extO 2 v326) fun v330 =>
bindP (astore lim ((H327.push (.cells z903586)).push (.cells z652358)) 13 (.ptr (some (H327.next, 0))) v328) fun H331 =>
bindP (astore lim H331 13 (.ptr (some ((H327.push (.cells z903586)).next, 0))) v329) fun H332 =>
bindP (faddrO 3 t1) fun v333 =>
bindP (aload H332 none v333) fun v334 =>
bind2 (R lim (.fn 19) [v305, v334] H332) fun v335 H336 =>
bindP (extO 0 v335) fun v337 =>
bindP (extO 1 v335) fun v338 =>
bindP (extO 2 v335) fun v339 =>
bindP (astore lim ((H336.push (.cells z903586)).push (.cells z652358)) 13 (.ptr (some (H336.next, 0))) v337) fun H340 =>
bindP (astore lim H340 13 (.ptr (some ((H336.push (.cells z903586)).next, 0))) v338) fun H341 =>
bindP (faddrO 3 t1) fun v342 =>
bindP (aload H341 none v342) fun v343 =>
bind2 (R lim (.fn 20) [v305, v343] H341) fun v344 H345 =>
bindP (extO 0 v344) fun v346 =>
bindP (extO 1 v344) fun v347 =>
bindP (astore lim (H345.push (.cells z652358)) 13 (.ptr (some (H345.next, 0))) v346) fun H348 =>
bind2 (R lim (.fn 45) [v305] H348) fun v349 H350 =>
bindP (extO 0 v349) fun v351 =>
bindP (extO 1 v349) fun v352 =>
bindP (aload H350 (some 13) (.ptr (some (H309.next, 0)))) fun v353 =>
bindP (aload H350 (some 13) (.ptr (some (H316.next, 0)))) fun v354 =>
bindP (aload H350 (some 13) (.ptr (some ((H327.push (.cells z903586)).next, 0)))) fun v355 =>
bindP (aload H350 (some 13) (.ptr (some ((H336.push (.cells z903586)).next, 0)))) fun v356 =>
bindP (aload H350 (some 13) (.ptr (some (H345.next, 0)))) fun v357 =>
bind2 ((fillV z63cf7f [(0, 13, v353), (13, 13, v354), (26, 13, v355), (39, 13, v356), (52, 13, v357)]).map fun cs => (.sl (some (H350.next, 0)) 5 (.ex 5), H350.push (.cells cs))) fun v358 H359 =>
bindP (alen false v358) fun v360 =>
F8_l2 R lim n K rec0 n t1 v305 v330 v339 v347 v351 v352 t27 t28 t29 v358 v360 (.int .i64 0) H359)) ∧
(b303 = false → (F8_j0 R lim n K H))
def F8_l0 (R : Caller) (lim n : Nat) (K : AVal → Heap → Prop) : Nat → AVal → AVal → AVal → AVal → Heap → Prop
  | 0, _, _, _, _, _ => False
  | m + 1, t1, t27, t28, t29, H => F8_s0 R lim n K (F8_l0 R lim n K m) t1 t27 t28 t29 H
def F8 (R : Caller) (lim n : Nat) (K : AVal → Heap → Prop) (a0 : AVal) (H : Heap) : Prop :=
bind2 (if (a0).cells.all (·.one) then some (.ptr (some (H.next, 0)), H.push (.cells (a0).cells)) else none) fun v1 H2 =>
bindP (aload H2 (some 36) v1) fun v3 =>
bind2 ((fillV zf04ada [(0, 36, v3)]).map fun cs => (.sl (some (H2.next, 0)) 1 (.ex 1), H2.push (.cells cs))) fun v4 H5 =>
bind2 (R lim (.fn 24) [v4] H5) fun v6 H7 =>
bindP (boolOf v6) fun b8 =>
(b8 = true → (bind2 (R lim (.fn 23) [] H7) fun v9 H10 =>
K v9 H10)) ∧
(b8 = false → (bindP (buildO z79a6db []) fun v11 =>
bind2 (if (v11).cells.all (·.one) then some (.ptr (some (H7.next, 0)), H7.push (.cells (v11).cells)) else none) fun v12 H13 =>
bind2 ((fillV [(.ptr none), (.ptr none)] [(0, 1, (.ptr none)), (1, 1, v12)]).map fun cs => (.sl (some (H13.next, 0)) 2 (.ex 2), H13.push (.cells cs))) fun v14 H15 =>
bindP (alen false v14) fun v16 =>
F8_l0 R lim n K n v1 v14 v16 (.int .i64 0) H15))
def F8_Lp (R : Caller) (lim n : Nat) (K : AVal → Heap → Prop) : Nat → Tm → Heap → Prop
  | 0, T, H => F8_l0 R lim n K n (T 1) (T 27) (T 28) (T 29) H
  | _, _, _ => False
def F8_Lp0 (R : Caller) (lim n : Nat) (K : AVal → Heap → Prop) (rec0 : AVal → AVal → AVal → AVal → Heap → Prop) : Nat → Tm → Heap → Prop
  | 2, T, H => F8_l2 R lim n K rec0 n (T 1) (T 5) (T 10) (T 13) (T 15) (T 16) (T 17) (T 27) (T 28) (T 29) (T 82) (T 83) (T 84) H
  | _, _, _ => False
def F8_Lp2 (R : Caller) (lim n : Nat) (K : AVal → Heap → Prop) (rec0 : AVal → AVal → AVal → AVal → Heap → Prop) (rec2 : AVal → AVal → AVal → AVal → AVal → AVal → AVal → AVal → AVal → AVal → AVal → AVal → AVal → Heap → Prop) : Nat → Tm → Heap → Prop
  | _, _, _ => False
def F8_k0 (R : Caller) (lim n : Nat) (K : AVal → Heap → Prop) (rec0 : AVal → AVal → AVal → AVal → Heap → Prop) : Kt := fun ex T H => match ex with
  | .norm => rec0 (T 1) (T 27) (T 28) (T 29) H
  | ex => (kBlk 0 (kSeq (execI R lim n 200 (F8_Lp R lim n K) f8_p1) (retW [(.tmp 2)] K))) ex T H
def F8_k2 (R : Caller) (lim n : Nat) (K : AVal → Heap → Prop) (rec0 : AVal → AVal → AVal → AVal → Heap → Prop) (rec2 : AVal → AVal → AVal → AVal → AVal → AVal → AVal → AVal → AVal → AVal → AVal → AVal → AVal → Heap → Prop) : Kt := fun ex T H => match ex with
  | .norm => rec2 (T 1) (T 5) (T 10) (T 13) (T 15) (T 16) (T 17) (T 27) (T 28) (T 29) (T 82) (T 83) (T 84) H
  | ex => (kBlk 2 (kSeq (execI R lim n 200 (F8_Lp0 R lim n K rec0) f8_p3) (kBlk 1 (kSeq (execI R lim n 200 (F8_Lp0 R lim n K rec0) f8_p4) (F8_k0 R lim n K rec0))))) ex T H
theorem F8_s2_eq (R : Caller) (lim n : Nat) (K : AVal → Heap → Prop) (rec0 : AVal → AVal → AVal → AVal → Heap → Prop) (rec2 : AVal → AVal → AVal → AVal → AVal → AVal → AVal → AVal → AVal → AVal → AVal → AVal → AVal → Heap → Prop) (T : Tm) (H : Heap) : F8_s2 R lim n K rec0 rec2 (T 1) (T 5) (T 10) (T 13) (T 15) (T 16) (T 17) (T 27) (T 28) (T 29) (T 82) (T 83) (T 84) H = execI R lim n 200 (F8_Lp2 R lim n K rec0 rec2) f8_p2 T H (F8_k2 R lim n K rec0 rec2) := by kernel_rfl
theorem F8_l2_ok (R : Caller) (lim n : Nat) (K : AVal → Heap → Prop) (rec0 : AVal → AVal → AVal → AVal → Heap → Prop) {kw : Kt} (hk : ∀ ex T H, (kBlk 2 (kSeq (execI R lim n 200 (F8_Lp0 R lim n K rec0) f8_p3) (kBlk 1 (kSeq (execI R lim n 200 (F8_Lp0 R lim n K rec0) f8_p4) (F8_k0 R lim n K rec0))))) ex T H → kw ex T H) : ∀ (m : Nat) (T : Tm) (H : Heap), F8_l2 R lim n K rec0 m (T 1) (T 5) (T 10) (T 13) (T 15) (T 16) (T 17) (T 27) (T 28) (T 29) (T 82) (T 83) (T 84) H → loopW (execW R lim n 200 f8_p2) m T H kw
  | 0, _, _, h => False.elim h
  | m + 1, T, H, h => by
    have hb : ∀ ex T H, F8_k2 R lim n K rec0 (F8_l2 R lim n K rec0 m) ex T H → (fun ex T H => match ex with | .norm => loopW (execW R lim n 200 f8_p2) m T H kw | ex => kw ex T H : Kt) ex T H := by
      intro ex T H h
      cases ex with
      | norm => exact F8_l2_ok R lim n K rec0 hk m T H h
      | exit i => exact hk _ _ _ h
      | ret => exact hk _ _ _ h
    have h' : F8_s2 R lim n K rec0 (F8_l2 R lim n K rec0 m) (T 1) (T 5) (T 10) (T 13) (T 15) (T 16) (T 17) (T 27) (T 28) (T 29) (T 82) (T 83) (T 84) H := h
    rw [F8_s2_eq] at h'
    exact execI_sound f8_p2 T H _ _ (oblig_nl (by kernel_rfl)) hb h'
theorem F8_s0_eq (R : Caller) (lim n : Nat) (K : AVal → Heap → Prop) (rec0 : AVal → AVal → AVal → AVal → Heap → Prop) (T : Tm) (H : Heap) : F8_s0 R lim n K rec0 (T 1) (T 27) (T 28) (T 29) H = execI R lim n 200 (F8_Lp0 R lim n K rec0) f8_p0 T H (F8_k0 R lim n K rec0) := by kernel_rfl
theorem F8_l0_ok (R : Caller) (lim n : Nat) (K : AVal → Heap → Prop) {kw : Kt} (hk : ∀ ex T H, (kBlk 0 (kSeq (execI R lim n 200 (F8_Lp R lim n K) f8_p1) (retW [(.tmp 2)] K))) ex T H → kw ex T H) : ∀ (m : Nat) (T : Tm) (H : Heap), F8_l0 R lim n K m (T 1) (T 27) (T 28) (T 29) H → loopW (execW R lim n 200 f8_p0) m T H kw
  | 0, _, _, h => False.elim h
  | m + 1, T, H, h => by
    have hb : ∀ ex T H, F8_k0 R lim n K (F8_l0 R lim n K m) ex T H → (fun ex T H => match ex with | .norm => loopW (execW R lim n 200 f8_p0) m T H kw | ex => kw ex T H : Kt) ex T H := by
      intro ex T H h
      cases ex with
      | norm => exact F8_l0_ok R lim n K hk m T H h
      | exit i => exact hk _ _ _ h
      | ret => exact hk _ _ _ h
    have h' : F8_s0 R lim n K (F8_l0 R lim n K m) (T 1) (T 27) (T 28) (T 29) H := h
    rw [F8_s0_eq] at h'
    exact execI_sound f8_p0 T H _ _ ⟨(oblig_nl (by kernel_rfl)), ⟨(oblig_nl (by kernel_rfl)), ⟨⟨(oblig_nl (by kernel_rfl)), ⟨(oblig_nl (by kernel_rfl)), ⟨(oblig_nl (by kernel_rfl)), ⟨(oblig_nl (by kernel_rfl)), ⟨(oblig_nl (by kernel_rfl)), ⟨(oblig_nl (by kernel_rfl)), ⟨(oblig_nl (by kernel_rfl)), ⟨⟨(oblig_nl (by kernel_rfl)), (fun T H h => F8_l2_ok R lim n K (F8_l0 R lim n K m) (kBlk_mono (kSeqI_sound (oblig_nl (by kernel_rfl)) (kBlk_mono (kSeqI_sound (oblig_nl (by kernel_rfl)) (hb))))) _ T H h)⟩, (oblig_nl (by kernel_rfl))⟩⟩⟩⟩⟩⟩⟩⟩, (oblig_nl (by kernel_rfl))⟩⟩⟩ hb h'
theorem F8_eq (R : Caller) (lim n : Nat) (K : AVal → Heap → Prop) (a0 : AVal) (H : Heap) : F8 R lim n K a0 H = execI R lim n 200 (F8_Lp R lim n K) f8.body (argT [a0]) H (retW [(.tmp 2)] K) := by kernel_rfl
theorem F8_ob (R : Caller) (lim n : Nat) (K : AVal → Heap → Prop) : Oblig R lim n 200 (F8_Lp R lim n K) f8.body (retW [(.tmp 2)] K) := ⟨(oblig_nl (by kernel_rfl)), ⟨(oblig_nl (by kernel_rfl)), ⟨(oblig_nl (by kernel_rfl)), ⟨⟨(oblig_nl (by kernel_rfl)), (fun T H h => F8_l0_ok R lim n K (kBlk_mono (kSeqI_sound (oblig_nl (by kernel_rfl)) (fun _ _ _ h => h))) _ T H h)⟩, (oblig_nl (by kernel_rfl))⟩⟩⟩⟩
theorem F8_run {ap : FuncId → Option AFn} (hf : ap 8 = some (.code f8)) {n lim : Nat} {K : AVal → Heap → Prop} {a0 : AVal} {H : Heap} (h : F8 (Ahs.runT ap n) lim n K a0 H) : ∃ v H', Ahs.runT ap (n + 1) lim (.fn 8) [a0] H = some (v, H') ∧ K v H' := by
  rw [F8_eq] at h
  exact run_of_W hf (by kernel_rfl) (by kernel_rfl) (execI_sound f8.body _ _ _ _ (F8_ob _ _ _ K) (fun _ _ _ h => h) h)
def F11 (R : Caller) (lim n : Nat) (K : AVal → Heap → Prop) (a0 : AVal) (H : Heap) : Prop :=
bind2 (R lim (.fn 53) [a0] H) fun v1 H2 =>
bindP (gd (some (v1, false)) (some a0)) fun v3 =>
bindP (gd (some (v1, false)) (nilO v3)) fun v4 =>
bindP (gd (some (v1, false)) (faddrO 13 v4)) fun v5 =>
bindP (gd (some (v1, false)) (aload H2 none v5)) fun v6 =>
bindP (gd (some (v1, false)) (abin .eql v6 (.int .i64 2))) fun v7 =>
bindP (pickO v1 (.bool true) v7) fun v8 =>
bindP (boolOf v8) fun b9 =>
(b9 = true → (K (.int .i64 0) H2)) ∧
(b9 = false → (bindP (nilO a0) fun v10 =>
bindP (faddrO 16 v10) fun v11 =>
bindP (aload H2 none v11) fun v12 =>
bindP (nilO a0) fun v13 =>
bindP (faddrO 15 v13) fun v14 =>
bindP (aload H2 none v14) fun v15 =>
bindP (abin .sub v12 v15) fun v16 =>
bindP (aminmax true [v16, (.int .i64 0)]) fun v17 =>
K v17 H2))
def F11_Lp (R : Caller) (lim n : Nat) (K : AVal → Heap → Prop) : Nat → Tm → Heap → Prop
  | _, _, _ => False
theorem F11_eq (R : Caller) (lim n : Nat) (K : AVal → Heap → Prop) (a0 : AVal) (H : Heap) : F11 R lim n K a0 H = execI R lim n 22 (F11_Lp R lim n K) f11.body (argT [a0]) H (retW [(.tmp 2)] K) := by kernel_rfl
theorem F11_ob (R : Caller) (lim n : Nat) (K : AVal → Heap → Prop) : Oblig R lim n 22 (F11_Lp R lim n K) f11.body (retW [(.tmp 2)] K) := (oblig_nl (by kernel_rfl))
theorem F11_run {ap : FuncId → Option AFn} (hf : ap 11 = some (.code f11)) {n lim : Nat} {K : AVal → Heap → Prop} {a0 : AVal} {H : Heap} (h : F11 (Ahs.runT ap n) lim n K a0 H) : ∃ v H', Ahs.runT ap (n + 1) lim (.fn 11) [a0] H = some (v, H') ∧ K v H' := by
  rw [F11_eq] at h
  exact run_of_W hf (by kernel_rfl) (by kernel_rfl) (execI_sound f11.body _ _ _ _ (F11_ob _ _ _ K) (fun _ _ _ h => h) h)
def F13 (R : Caller) (lim n : Nat) (K : AVal → Heap → Prop) (a0 : AVal) (H : Heap) : Prop :=
bind2 (R lim (.fn 53) [a0] H) fun v1 H2 =>
bindP (aun .not v1) fun v3 =>
bindP (gd (some (v3, true)) (some a0)) fun v4 =>
bindP (gd (some (v3, true)) (nilO v4)) fun v5 =>
bindP (gd (some (v3, true)) (faddrO 13 v5)) fun v6 =>
bindP (gd (some (v3, true)) (aload H2 none v6)) fun v7 =>
bindP (gd (some (v3, true)) (abin .eql v7 (.int .i64 2))) fun v8 =>
bindP (pickO v3 v8 (.bool false)) fun v9 =>
K v9 H2
def F13_Lp (R : Caller) (lim n : Nat) (K : AVal → Heap → Prop) : Nat → Tm → Heap → Prop
  | _, _, _ => False
theorem F13_eq (R : Caller) (lim n : Nat) (K : AVal → Heap → Prop) (a0 : AVal) (H : Heap) : F13 R lim n K a0 H = execI R lim n 13 (F13_Lp R lim n K) f13.body (argT [a0]) H (retW [(.tmp 2)] K) := by kernel_rfl
theorem F13_ob (R : Caller) (lim n : Nat) (K : AVal → Heap → Prop) : Oblig R lim n 13 (F13_Lp R lim n K) f13.body (retW [(.tmp 2)] K) := (oblig_nl (by kernel_rfl))
theorem F13_run {ap : FuncId → Option AFn} (hf : ap 13 = some (.code f13)) {n lim : Nat} {K : AVal → Heap → Prop} {a0 : AVal} {H : Heap} (h : F13 (Ahs.runT ap n) lim n K a0 H) : ∃ v H', Ahs.runT ap (n + 1) lim (.fn 13) [a0] H = some (v, H') ∧ K v H' := by
  rw [F13_eq] at h
  exact run_of_W hf (by kernel_rfl) (by kernel_rfl) (execI_sound f13.body _ _ _ _ (F13_ob _ _ _ K) (fun _ _ _ h => h) h)
def F14 (R : Caller) (lim n : Nat) (K : AVal → Heap → Prop) (a0 : AVal) (H : Heap) : Prop :=
bind2 (R lim (.fn 53) [a0] H) fun v1 H2 =>
bindP (boolOf v1) fun b3 =>
(b3 = true → (K (.int .u64 0) H2)) ∧
(b3 = false → (bindP (nilO a0) fun v4 =>
bindP (faddrO 12 v4) fun v5 =>
bindP (aload H2 none v5) fun v6 =>
K v6 H2))
def F14_Lp (R : Caller) (lim n : Nat) (K : AVal → Heap → Prop) : Nat → Tm → Heap → Prop
  | _, _, _ => False
theorem F14_eq (R : Caller) (lim n : Nat) (K : AVal → Heap → Prop) (a0 : AVal) (H : Heap) : F14 R lim n K a0 H = execI R lim n 9 (F14_Lp R lim n K) f14.body (argT [a0]) H (retW [(.tmp 2)] K) := by kernel_rfl
theorem F14_ob (R : Caller) (lim n : Nat) (K : AVal → Heap → Prop) : Oblig R lim n 9 (F14_Lp R lim n K) f14.body (retW [(.tmp 2)] K) := (oblig_nl (by kernel_rfl))
theorem F14_run {ap : FuncId → Option AFn} (hf : ap 14 = some (.code f14)) {n lim : Nat} {K : AVal → Heap → Prop} {a0 : AVal} {H : Heap} (h : F14 (Ahs.runT ap n) lim n K a0 H) : ∃ v H', Ahs.runT ap (n + 1) lim (.fn 14) [a0] H = some (v, H') ∧ K v H' := by
  rw [F14_eq] at h
  exact run_of_W hf (by kernel_rfl) (by kernel_rfl) (execI_sound f14.body _ _ _ _ (F14_ob _ _ _ K) (fun _ _ _ h => h) h)
def F15_j0 (R : Caller) (lim n : Nat) (K : AVal → Heap → Prop) (t6 t7 : AVal) (H : Heap) : Prop :=
bindP (aload H (some 13) t7) fun v63 =>
bindP (astore lim H 13 t6 v63) fun H64 =>
bindP (aload H64 (some 13) t6) fun v65 =>
K v65 H64
def F15_j1 (R : Caller) (lim n : Nat) (K : AVal → Heap → Prop) (t6 t7 : AVal) (H : Heap) : Prop :=
F15_j0 R lim n K t6 t7 H
def F15_j2 (R : Caller) (lim n : Nat) (K : AVal → Heap → Prop) (t6 t7 : AVal) (H : Heap) : Prop :=
F15_j1 R lim n K t6 t7 H
def F15_j3 (R : Caller) (lim n : Nat) (K : AVal → Heap → Prop) (t6 t7 : AVal) (H : Heap) : Prop :=
F15_j1 R lim n K t6 t7 H
def F15_j4 (R : Caller) (lim n : Nat) (K : AVal → Heap → Prop) (t6 t7 : AVal) (H : Heap) : Prop :=
F15_j3 R lim n K t6 t7 H
def F15_j5 (R : Caller) (lim n : Nat) (K : AVal → Heap → Prop) (t6 t7 : AVal) (H : Heap) : Prop :=
F15_j4 R lim n K t6 t7 H
def F15_j6 (R : Caller) (lim n : Nat) (K : AVal → Heap → Prop) (t6 t7 : AVal) (H : Heap) : Prop :=
F15_j3 R lim n K t6 t7 H
def F15_j7 (R : Caller) (lim n : Nat) (K : AVal → Heap → Prop) (t6 t7 : AVal) (H : Heap) : Prop :=
F15_j6 R lim n K t6 t7 H
def F15_j8 (R : Caller) (lim n : Nat) (K : AVal → Heap → Prop) (t6 t7 : AVal) (H : Heap) : Prop :=
F15_j6 R lim n K t6 t7 H
def F15_j9 (R : Caller) (lim n : Nat) (K : AVal → Heap → Prop) (t6 t7 : AVal) (H : Heap) : Prop :=
F15_j8 R lim n K t6 t7 H
def F15_j10 (R : Caller) (lim n : Nat) (K : AVal → Heap → Prop) (t0 t2 t4 t6 t7 t69 t124 : AVal) (H : Heap) : Prop :=
bindP (boolOf t124) fun b120 =>
(b120 = true → (bindP (nilO t0) fun v121 =>
bindP (faddrO 13 v121) fun v122 =>
bindP (aload H none v122) fun v123 =>
bindP (abin .eql v123 (.int .i64 2)) fun v124 =>
bindP (boolOf v124) fun b125 =>
(b125 = true → (bindP (aload H (some 13) t4) fun v126 =>
bind2 (R lim (.fn 62) [t0, t7, v126] H) fun v127 H128 =>
F15_j7 R lim n K t6 t7 H128)) ∧
(b125 = false → (F15_j7 R lim n K t6 t7 H)))) ∧
(b120 = false → (bindP (abin .eql t69 (.int .u8 7)) fun v129 =>
bindP (boolOf v129) fun b130 =>
(b130 = true → (bindP (nilO t0) fun v131 =>
bindP (faddrO 13 v131) fun v132 =>
bindP (aload H none v132) fun v133 =>
bindP (abin .neq v133 (.int .i64 2)) fun v134 =>
bindP (gd (some (v134, true)) (some t0)) fun v135 =>
bind2 (gd2 (some (v134, true)) H (R lim (.fn 63) [v135] H)) fun v136 H137 =>
bindP (pickO v134 v136 (.bool false)) fun v138 =>
bindP (boolOf v138) fun b139 =>
(b139 = true → (bind2 (R lim (.fn 64) [t0, t7, t2] H137) fun v140 H141 =>
F15_j9 R lim n K t6 t7 H141)) ∧
(b139 = false → (F15_j9 R lim n K t6 t7 H137)))) ∧
(b130 = false → (F15_j8 R lim n K t6 t7 H))))
def F15_j11 (R : Caller) (lim n : Nat) (K : AVal → Heap → Prop) (t0 t2 t4 t6 t7 t69 t100 : AVal) (H : Heap) : Prop :=
bindP (boolOf t100) fun b97 =>
(b97 = true → (bindP (nilO t0) fun v98 =>
bindP (faddrO 13 v98) fun v99 =>
bindP (aload H none v99) fun v100 =>
bindP (abin .neq v100 (.int .i64 2)) fun v101 =>
bindP (boolOf v101) fun b102 =>
(b102 = true → (bindP (faddrO 1 t4) fun v103 =>
bindP (aload H none v103) fun v104 =>
bind2 (R lim (.fn 58) [t0, t7, v104] H) fun v105 H106 =>
bind2 (R lim (.fn 59) [t0, t2] H106) fun v107 H108 =>
bindP (faddrO 0 t4) fun v109 =>
bindP (aload H108 none v109) fun v110 =>
bindP (abin .eql v110 (.int .u8 3)) fun v111 =>
bindP (boolOf v111) fun b112 =>
(b112 = true → (bindP (aload H108 (some 13) t4) fun v113 =>
bind2 (R lim (.fn 60) [t0, t7, v113] H108) fun v114 H115 =>
F15_j5 R lim n K t6 t7 H115)) ∧
(b112 = false → (bindP (aload H108 (some 13) t4) fun v116 =>
bind2 (R lim (.fn 61) [t0, t7, v116] H108) fun v117 H118 =>
F15_j5 R lim n K t6 t7 H118)))) ∧
(b102 = false → (F15_j4 R lim n K t6 t7 H)))) ∧
(b97 = false → (bindP (abin .eql t69 (.int .u8 4)) fun v119 =>
bindP (boolOf v119) fun b142 =>
(b142 = true → (F15_j10 R lim n K t0 t2 t4 t6 t7 t69 v119 H)) ∧
(b142 = false → (bindP (abin .eql t69 (.int .u8 6)) fun v143 =>
F15_j10 R lim n K t0 t2 t4 t6 t7 t69 v143 H))))
def F15_j12 (R : Caller) (lim n : Nat) (K : AVal → Heap → Prop) (t0 t2 t4 t6 t7 : AVal) (H : Heap) : Prop :=
bindP (faddrO 3 t4) fun v47 =>
bindP (aload H none v47) fun v48 =>
bindP (nilO t0) fun v49 =>
bindP (faddrO 1 v49) fun v50 =>
bindP (aload H none v50) fun v51 =>
bindP (abin .lss v48 v51) fun v52 =>
bindP (boolOf v52) fun b53 =>
(b53 = true → (bindP (aload H (some 13) t4) fun v54 =>
bind2 (R lim (.fn 55) [t0, t7, v54] H) fun v55 H56 =>
bindP (aload H56 (some 13) t7) fun v57 =>
bindP (astore lim H56 13 t6 v57) fun H58 =>
bindP (aload H58 (some 13) t6) fun v59 =>
K v59 H58)) ∧
(b53 = false → (bindP (faddrO 0 t4) fun v60 =>
bindP (aload H none v60) fun v61 =>
bindP (abin .eql v61 (.int .u8 1)) fun v62 =>
bindP (boolOf v62) fun b66 =>
(b66 = true → (bindP (aload H (some 13) t4) fun v67 =>
bind2 (R lim (.fn 56) [t0, t7, v67, t2] H) fun v68 H69 =>
F15_j0 R lim n K t6 t7 H69)) ∧
(b66 = false → (bindP (abin .eql v61 (.int .u8 2)) fun v70 =>
bindP (boolOf v70) fun b71 =>
(b71 = true → (bindP (faddrO 8 t4) fun v72 =>
bindP (aload H none v72) fun v73 =>
bindP (gd (some (v73, true)) (some t0)) fun v74 =>
bindP (gd (some (v73, true)) (nilO v74)) fun v75 =>
bindP (gd (some (v73, true)) (faddrO 13 v75)) fun v76 =>
bindP (gd (some (v73, true)) (aload H none v76)) fun v77 =>
bindP (gd (some (v73, true)) (abin .eql v77 (.int .i64 1))) fun v78 =>
bindP (pickO v73 v78 (.bool false)) fun v79 =>
bindP (boolOf v79) fun b80 =>
(b80 = true → (bindP (nilO t0) fun v81 =>
bindP (faddrO 17 v81) fun v82 =>
bindP (aload H none v82) fun v83 =>
bindP (faddrO 1 t4) fun v84 =>
bindP (aload H none v84) fun v85 =>
bind2 ((fillV [(.int .u8 0)] [(0, 1, v85)]).map fun cs => (.sl (some (H.next, 0)) 1 (.ex 1), H.push (.cells cs))) fun v86 H87 =>
bind2 (R lim (.fn 51) [v86] H87) fun v88 H89 =>
keptG none H87 H89 [v82] ∧
bindP (abin .or v83 v88) fun v90 =>
bindP (nilO t0) fun v91 =>
bindP (faddrO 17 v91) fun v92 =>
bindP (astore lim H89 1 v92 v90) fun H93 =>
bind2 (R lim (.fn 57) [t0, t7] H93) fun v94 H95 =>
F15_j2 R lim n K t6 t7 H95)) ∧
(b80 = false → (F15_j2 R lim n K t6 t7 H)))) ∧
(b71 = false → (bindP (abin .eql v61 (.int .u8 3)) fun v96 =>
bindP (boolOf v96) fun b144 =>
(b144 = true → (F15_j11 R lim n K t0 t2 t4 t6 t7 v61 v96 H)) ∧
(b144 = false → (bindP (abin .eql v61 (.int .u8 5)) fun v145 =>
F15_j11 R lim n K t0 t2 t4 t6 t7 v61 v145 H))))))))
def F15 (R : Caller) (lim n : Nat) (K : AVal → Heap → Prop) (a0 a1 a2 : AVal) (H : Heap) : Prop :=
bind2 (if (a1).cells.all (·.one) then some (.ptr (some (H.next, 0)), H.push (.cells (a1).cells)) else none) fun v1 H2 =>
bind2 (R lim (.fn 53) [a0] ((H2.push (.cells z652358)).push (.cells z652358))) fun v3 H4 =>
bindP (gd (some (v3, false)) (faddrO 2 v1)) fun v5 =>
bindP (gd (some (v3, false)) (aload H4 none v5)) fun v6 =>
bindP (gd (some (v3, false)) (some a0)) fun v7 =>
bindP (gd (some (v3, false)) (nilO v7)) fun v8 =>
bindP (gd (some (v3, false)) (faddrO 0 v8)) fun v9 =>
bindP (gd (some (v3, false)) (aload H4 none v9)) fun v10 =>
bindP (gd (some (v3, false)) (abin .neq v6 v10)) fun v11 =>
bindP (pickO v3 (.bool true) v11) fun v12 =>
bindP (gd (some (v12, false)) (faddrO 1 v1)) fun v13 =>
bindP (gd (some (v12, false)) (aload H4 none v13)) fun v14 =>
bindP (gd (some (v12, false)) (some a0)) fun v15 =>
bindP (gd (some (v12, false)) (nilO v15)) fun v16 =>
bindP (gd (some (v12, false)) (faddrO 0 v16)) fun v17 =>
bindP (gd (some (v12, false)) (aload H4 none v17)) fun v18 =>
bindP (gd (some (v12, false)) (abin .eql v14 v18)) fun v19 =>
bindP (pickO v12 (.bool true) v19) fun v20 =>
bindP (gd (some (v20, false)) (faddrO 1 v1)) fun v21 =>
bindP (gd (some (v20, false)) (aload H4 none v21)) fun v22 =>
bind2 (gd2 (some (v20, false)) H4 ((fillV [(.int .u8 0)] [(0, 1, v22)]).map fun cs => (.sl (some (H4.next, 0)) 1 (.ex 1), H4.push (.cells cs)))) fun v23 H24 =>
bind2 (gd2 (some (v20, false)) H24 (R lim (.fn 51) [v23] H24)) fun v25 H26 =>
bindP (gd (some (v20, false)) (abin .eql v25 (.int .u8 0))) fun v27 =>
bindP (pickO v20 (.bool true) v27) fun v28 =>
bindP (gd (some (v28, false)) (faddrO 0 v1)) fun v29 =>
bindP (gd (some (v28, false)) (aload H26 none v29)) fun v30 =>
bindP (gd (some (v28, false)) (abin .lss v30 (.int .u8 1))) fun v31 =>
bindP (pickO v28 (.bool true) v31) fun v32 =>
bindP (gd (some (v32, false)) (faddrO 0 v1)) fun v33 =>
bindP (gd (some (v32, false)) (aload H26 none v33)) fun v34 =>
bindP (gd (some (v32, false)) (abin .gtr v34 (.int .u8 7))) fun v35 =>
bindP (pickO v32 (.bool true) v35) fun v36 =>
bindP (boolOf v36) fun b37 =>
(b37 = true → (bindP (aload H26 (some 13) (.ptr (some ((H2.push (.cells z652358)).next, 0)))) fun v38 =>
bindP (astore lim H26 13 (.ptr (some (H2.next, 0))) v38) fun H39 =>
bindP (aload H39 (some 13) (.ptr (some (H2.next, 0)))) fun v40 =>
K v40 H39)) ∧
(b37 = false → (bindP (faddrO 3 v1) fun v41 =>
bindP (aload H26 none v41) fun v42 =>
bindP (nilO a0) fun v43 =>
bindP (faddrO 1 v43) fun v44 =>
bindP (aload H26 none v44) fun v45 =>
bindP (abin .gtr v42 v45) fun v46 =>
bindP (boolOf v46) fun b146 =>
(b146 = true → (bindP (faddrO 3 v1) fun v147 =>
bindP (aload H26 none v147) fun v148 =>
bind2 (R lim (.fn 54) [a0, (.ptr (some ((H2.push (.cells z652358)).next, 0))), v148] H26) fun v149 H150 =>
F15_j12 R lim n K a0 a2 v1 (.ptr (some (H2.next, 0))) (.ptr (some ((H2.push (.cells z652358)).next, 0))) H150)) ∧
(b146 = false → (F15_j12 R lim n K a0 a2 v1 (.ptr (some (H2.next, 0))) (.ptr (some ((H2.push (.cells z652358)).next, 0))) H26))))
def F15_Lp (R : Caller) (lim n : Nat) (K : AVal → Heap → Prop) : Nat → Tm → Heap → Prop
  | _, _, _ => False
theorem F15_eq (R : Caller) (lim n : Nat) (K : AVal → Heap → Prop) (a0 a1 a2 : AVal) (H : Heap) : F15 R lim n K a0 a1 a2 H = execI R lim n 150 (F15_Lp R lim n K) f15.body (argT [a0, a1, a2]) H (retW [(.cell 6 (some 13))] K) := by kernel_rfl
theorem F15_ob (R : Caller) (lim n : Nat) (K : AVal → Heap → Prop) : Oblig R lim n 150 (F15_Lp R lim n K) f15.body (retW [(.cell 6 (some 13))] K) := (oblig_nl (by kernel_rfl))
theorem F15_run {ap : FuncId → Option AFn} (hf : ap 15 = some (.code f15)) {n lim : Nat} {K : AVal → Heap → Prop} {a0 a1 a2 : AVal} {H : Heap} (h : F15 (Ahs.runT ap n) lim n K a0 a1 a2 H) : ∃ v H', Ahs.runT ap (n + 1) lim (.fn 15) [a0, a1, a2] H = some (v, H') ∧ K v H' := by
  rw [F15_eq] at h
  exact run_of_W hf (by kernel_rfl) (by kernel_rfl) (execI_sound f15.body _ _ _ _ (F15_ob _ _ _ K) (fun _ _ _ h => h) h)
def F16_j0 (R : Caller) (lim n : Nat) (K : AVal → Heap → Prop) (t4 t5 : AVal) (H : Heap) : Prop :=
bindP (aload H (some 13) t5) fun v30 =>
bindP (astore lim H 13 t4 v30) fun H31 =>
bindP (aload H31 (some 13) t4) fun v32 =>
K v32 H31
def F16_j1 (R : Caller) (lim n : Nat) (K : AVal → Heap → Prop) (t0 t4 t5 : AVal) (H : Heap) : Prop :=
bind2 (R lim (.fn 69) [t0, t5] H) fun v60 H61 =>
bindP (aload H61 (some 13) t5) fun v62 =>
bindP (astore lim H61 13 t4 v62) fun H63 =>
bindP (aload H63 (some 13) t4) fun v64 =>
K v64 H63
def F16_s0 (R : Caller) (lim n : Nat) (K : AVal → Heap → Prop) (rec0 : AVal → AVal → AVal → AVal → AVal → AVal → Heap → Prop) (t0 t4 t5 t64 t65 t66 : AVal) (H : Heap) : Prop :=
bindP (abin .lss t66 t65) fun v65 =>
bindP (boolOf v65) fun b66 =>
(b66 = true → (bindP (aindexAddr none 1 t64 t66) fun v67 =>
bindP (aload H none v67) fun v68 =>
bind2 (R lim (.fn 68) [t0, t5, v68] H) fun v69 H70 =>
bindP (abin .add t66 (.int .i64 1)) fun v71 =>
rec0 t0 t4 t5 t64 t65 v71 H70)) ∧
(b66 = false → (F16_j1 R lim n K t0 t4 t5 H))
def F16_l0 (R : Caller) (lim n : Nat) (K : AVal → Heap → Prop) : Nat → AVal → AVal → AVal → AVal → AVal → AVal → Heap → Prop
  | 0, _, _, _, _, _, _, _ => False
  | m + 1, t0, t4, t5, t64, t65, t66, H => F16_s0 R lim n K (F16_l0 R lim n K m) t0 t4 t5 t64 t65 t66 H
def F16_j2 (R : Caller) (lim n : Nat) (K : AVal → Heap → Prop) (t0 t4 t5 : AVal) (H : Heap) : Prop :=
bindP (nilO t0) fun v38 =>
bindP (faddrO 20 v38) fun v39 =>
bindP (aload H none v39) fun v40 =>
bindP (abin .add v40 (.int .u64 1)) fun v41 =>
bindP (nilO t0) fun v42 =>
bindP (faddrO 20 v42) fun v43 =>
bindP (astore lim H 1 v43 v41) fun H44 =>
bind2 (R lim (.fn 67) [t0] H44) fun v45 H46 =>
bindP (alen false v45) fun v47 =>
F16_l0 R lim n K n t0 t4 t5 v45 v47 (.int .i64 0) H46
def F16 (R : Caller) (lim n : Nat) (K : AVal → Heap → Prop) (a0 a1 : AVal) (H : Heap) : Prop :=
bind2 (R lim (.fn 53) [a0] ((H.push (.cells z652358)).push (.cells z652358))) fun v1 H2 =>
bindP (boolOf v1) fun b3 =>
(b3 = true → (bindP (aload H2 (some 13) (.ptr (some ((H.push (.cells z652358)).next, 0)))) fun v4 =>
bindP (astore lim H2 13 (.ptr (some (H.next, 0))) v4) fun H5 =>
bindP (aload H5 (some 13) (.ptr (some (H.next, 0)))) fun v6 =>
K v6 H5)) ∧
(b3 = false → (bindP (nilO a0) fun v7 =>
bindP (faddrO 13 v7) fun v8 =>
bindP (aload H2 none v8) fun v9 =>
bindP (abin .neq v9 (.int .i64 2)) fun v10 =>
bindP (boolOf v10) fun b11 =>
(b11 = true → (bindP (nilO a0) fun v12 =>
bindP (faddrO 15 v12) fun v13 =>
bindP (aload H2 none v13) fun v14 =>
bindP (abin .add v14 (.int .i64 1)) fun v15 =>
bindP (nilO a0) fun v16 =>
bindP (faddrO 15 v16) fun v17 =>
bindP (astore lim H2 1 v17 v15) fun H18 =>
bindP (nilO a0) fun v19 =>
bindP (faddrO 15 v19) fun v20 =>
bindP (aload H18 none v20) fun v21 =>
bindP (nilO a0) fun v22 =>
bindP (faddrO 16 v22) fun v23 =>
bindP (aload H18 none v23) fun v24 =>
bindP (abin .geq v21 v24) fun v25 =>
bindP (gd (some (v25, true)) (some a0)) fun v26 =>
bind2 (gd2 (some (v25, true)) H18 (R lim (.fn 63) [v26] H18)) fun v27 H28 =>
bindP (pickO v25 v27 (.bool false)) fun v29 =>
bindP (boolOf v29) fun b33 =>
(b33 = true → (bind2 (R lim (.fn 64) [a0, (.ptr (some ((H.push (.cells z652358)).next, 0))), a1] H28) fun v34 H35 =>
F16_j0 R lim n K (.ptr (some (H.next, 0))) (.ptr (some ((H.push (.cells z652358)).next, 0))) H35)) ∧
(b33 = false → (F16_j0 R lim n K (.ptr (some (H.next, 0))) (.ptr (some ((H.push (.cells z652358)).next, 0))) H28)))) ∧
(b11 = false → (bind2 (R lim (.fn 65) [a0] H2) fun v36 H37 =>
bindP (boolOf v36) fun b72 =>
(b72 = true → (bindP (nilO a0) fun v73 =>
bindP (faddrO 21 v73) fun v74 =>
bindP (aload H37 none v74) fun v75 =>
bindP (nilO a0) fun v76 =>
bindP (faddrO 12 v76) fun v77 =>
bindP (aload H37 none v77) fun v78 =>
bindP (nilO a0) fun v79 =>
bindP (faddrO 20 v79) fun v80 =>
bindP (aload H37 none v80) fun v81 =>
bindP (abin .add v81 (.int .u64 1)) fun v82 =>
bind2 (R lim (.fn 66) [v75, v78, v82] H37) fun v83 H84 =>
F16_j2 R lim n K a0 (.ptr (some (H.next, 0))) (.ptr (some ((H.push (.cells z652358)).next, 0))) H84)) ∧
(b72 = false → (F16_j2 R lim n K a0 (.ptr (some (H.next, 0))) (.ptr (some ((H.push (.cells z652358)).next, 0))) H37))))))
def F16_Lp (R : Caller) (lim n : Nat) (K : AVal → Heap → Prop) : Nat → Tm → Heap → Prop
  | 0, T, H => F16_l0 R lim n K n (T 0) (T 4) (T 5) (T 64) (T 65) (T 66) H
  | _, _, _ => False
def F16_Lp0 (R : Caller) (lim n : Nat) (K : AVal → Heap → Prop) (rec0 : AVal → AVal → AVal → AVal → AVal → AVal → Heap → Prop) : Nat → Tm → Heap → Prop
  | _, _, _ => False
def F16_k0 (R : Caller) (lim n : Nat) (K : AVal → Heap → Prop) (rec0 : AVal → AVal → AVal → AVal → AVal → AVal → Heap → Prop) : Kt := fun ex T H => match ex with
  | .norm => rec0 (T 0) (T 4) (T 5) (T 64) (T 65) (T 66) H
  | ex => (kBlk 0 (kSeq (execI R lim n 77 (F16_Lp R lim n K) f16_p1) (retW [(.cell 4 (some 13))] K))) ex T H
theorem F16_s0_eq (R : Caller) (lim n : Nat) (K : AVal → Heap → Prop) (rec0 : AVal → AVal → AVal → AVal → AVal → AVal → Heap → Prop) (T : Tm) (H : Heap) : F16_s0 R lim n K rec0 (T 0) (T 4) (T 5) (T 64) (T 65) (T 66) H = execI R lim n 77 (F16_Lp0 R lim n K rec0) f16_p0 T H (F16_k0 R lim n K rec0) := by kernel_rfl
theorem F16_l0_ok (R : Caller) (lim n : Nat) (K : AVal → Heap → Prop) {kw : Kt} (hk : ∀ ex T H, (kBlk 0 (kSeq (execI R lim n 77 (F16_Lp R lim n K) f16_p1) (retW [(.cell 4 (some 13))] K))) ex T H → kw ex T H) : ∀ (m : Nat) (T : Tm) (H : Heap), F16_l0 R lim n K m (T 0) (T 4) (T 5) (T 64) (T 65) (T 66) H → loopW (execW R lim n 77 f16_p0) m T H kw
  | 0, _, _, h => False.elim h
  | m + 1, T, H, h => by
    have hb : ∀ ex T H, F16_k0 R lim n K (F16_l0 R lim n K m) ex T H → (fun ex T H => match ex with | .norm => loopW (execW R lim n 77 f16_p0) m T H kw | ex => kw ex T H : Kt) ex T H := by
      intro ex T H h
      cases ex with
      | norm => exact F16_l0_ok R lim n K hk m T H h
      | exit i => exact hk _ _ _ h
      | ret => exact hk _ _ _ h
    have h' : F16_s0 R lim n K (F16_l0 R lim n K m) (T 0) (T 4) (T 5) (T 64) (T 65) (T 66) H := h
    rw [F16_s0_eq] at h'
    exact execI_sound f16_p0 T H _ _ (oblig_nl (by kernel_rfl)) hb h'
theorem F16_eq (R : Caller) (lim n : Nat) (K : AVal → Heap → Prop) (a0 a1 : AVal) (H : Heap) : F16 R lim n K a0 a1 H = execI R lim n 77 (F16_Lp R lim n K) f16.body (argT [a0, a1]) H (retW [(.cell 4 (some 13))] K) := by kernel_rfl
theorem F16_ob (R : Caller) (lim n : Nat) (K : AVal → Heap → Prop) : Oblig R lim n 77 (F16_Lp R lim n K) f16.body (retW [(.cell 4 (some 13))] K) := ⟨(oblig_nl (by kernel_rfl)), ⟨(oblig_nl (by kernel_rfl)), ⟨(oblig_nl (by kernel_rfl)), ⟨(oblig_nl (by kernel_rfl)), ⟨(oblig_nl (by kernel_rfl)), ⟨(oblig_nl (by kernel_rfl)), ⟨⟨(oblig_nl (by kernel_rfl)), (fun T H h => F16_l0_ok R lim n K (kBlk_mono (kSeqI_sound (oblig_nl (by kernel_rfl)) (fun _ _ _ h => h))) _ T H h)⟩, (oblig_nl (by kernel_rfl))⟩⟩⟩⟩⟩⟩⟩
theorem F16_run {ap : FuncId → Option AFn} (hf : ap 16 = some (.code f16)) {n lim : Nat} {K : AVal → Heap → Prop} {a0 a1 : AVal} {H : Heap} (h : F16 (Ahs.runT ap n) lim n K a0 a1 H) : ∃ v H', Ahs.runT ap (n + 1) lim (.fn 16) [a0, a1] H = some (v, H') ∧ K v H' := by
  rw [F16_eq] at h
  exact run_of_W hf (by kernel_rfl) (by kernel_rfl) (execI_sound f16.body _ _ _ _ (F16_ob _ _ _ K) (fun _ _ _ h => h) h)
def F18 (R : Caller) (lim n : Nat) (K : AVal → Heap → Prop) (a0 a1 : AVal) (H : Heap) : Prop :=
bind2 (R lim (.fn 53) [a0] H) fun v1 H2 =>
bindP (aun .not v1) fun v3 =>
bindP (gd (some (v3, true)) (some a0)) fun v4 =>
bindP (gd (some (v3, true)) (nilO v4)) fun v5 =>
bindP (gd (some (v3, true)) (faddrO 13 v5)) fun v6 =>
bindP (gd (some (v3, true)) (aload H2 none v6)) fun v7 =>
bindP (gd (some (v3, true)) (abin .eql v7 (.int .i64 2))) fun v8 =>
bindP (pickO v3 v8 (.bool false)) fun v9 =>
bindP (gd (some (v9, true)) (some a0)) fun v10 =>
bindP (gd (some (v9, true)) (nilO v10)) fun v11 =>
bindP (gd (some (v9, true)) (faddrO 21 v11)) fun v12 =>
bindP (gd (some (v9, true)) (aload H2 none v12)) fun v13 =>
bindP (gd (some (v9, true)) (some a1)) fun v14 =>
bind2 (gd2 (some (v9, true)) H2 (R lim (.fn 70) [v13, v14] H2)) fun v15 H16 =>
bindP (pickO v9 v15 (.bool false)) fun v17 =>
K v17 H16
def F18_Lp (R : Caller) (lim n : Nat) (K : AVal → Heap → Prop) : Nat → Tm → Heap → Prop
  | _, _, _ => False
theorem F18_eq (R : Caller) (lim n : Nat) (K : AVal → Heap → Prop) (a0 a1 : AVal) (H : Heap) : F18 R lim n K a0 a1 H = execI R lim n 23 (F18_Lp R lim n K) f18.body (argT [a0, a1]) H (retW [(.tmp 4)] K) := by kernel_rfl
theorem F18_ob (R : Caller) (lim n : Nat) (K : AVal → Heap → Prop) : Oblig R lim n 23 (F18_Lp R lim n K) f18.body (retW [(.tmp 4)] K) := (oblig_nl (by kernel_rfl))
theorem F18_run {ap : FuncId → Option AFn} (hf : ap 18 = some (.code f18)) {n lim : Nat} {K : AVal → Heap → Prop} {a0 a1 : AVal} {H : Heap} (h : F18 (Ahs.runT ap n) lim n K a0 a1 H) : ∃ v H', Ahs.runT ap (n + 1) lim (.fn 18) [a0, a1] H = some (v, H') ∧ K v H' := by
  rw [F18_eq] at h
  exact run_of_W hf (by kernel_rfl) (by kernel_rfl) (execI_sound f18.body _ _ _ _ (F18_ob _ _ _ K) (fun _ _ _ h => h) h)
def F19 (R : Caller) (lim n : Nat) (K : AVal → Heap → Prop) (a0 a1 : AVal) (H : Heap) : Prop :=
bind2 (R lim (.fn 53) [a0] ((H.push (.cells z903586)).push (.cells z652358))) fun v1 H2 =>
bindP (gd (some (v1, false)) (some a0)) fun v3 =>
bindP (gd (some (v1, false)) (nilO v3)) fun v4 =>
bindP (gd (some (v1, false)) (faddrO 13 v4)) fun v5 =>
bindP (gd (some (v1, false)) (aload H2 none v5)) fun v6 =>
bindP (gd (some (v1, false)) (abin .neq v6 (.int .i64 2))) fun v7 =>
bindP (pickO v1 (.bool true) v7) fun v8 =>
bindP (gd (some (v8, false)) (some a0)) fun v9 =>
bind2 (gd2 (some (v8, false)) H2 (R lim (.fn 65) [v9] H2)) fun v10 H11 =>
bindP (gd (some (v8, false)) (aun .not v10)) fun v12 =>
bindP (pickO v8 (.bool true) v12) fun v13 =>
bindP (boolOf v13) fun b14 =>
(b14 = true → (bindP (buildO z903586 []) fun v15 =>
bindP (buildO z652358 []) fun v16 =>
bindP (astore lim H11 13 (.ptr (some (H.next, 0))) v15) fun H17 =>
bindP (astore lim H17 13 (.ptr (some ((H.push (.cells z903586)).next, 0))) v16) fun H18 =>
bindP (aload H18 (some 13) (.ptr (some (H.next, 0)))) fun v19 =>
bindP (aload H18 (some 13) (.ptr (some ((H.push (.cells z903586)).next, 0)))) fun v20 =>
K (.tup [v19, v20, (.int .u8 2)]) H18)) ∧
(b14 = false → (bindP (nilO a0) fun v21 =>
bindP (faddrO 3 v21) fun v22 =>
bindP (aload H11 none v22) fun v23 =>
bind2 (R lim (.fn 71) [v23] H11) fun v24 H25 =>
bindP (extO 0 v24) fun v26 =>
bindP (extO 1 v24) fun v27 =>
bindP (nilO a0) fun v28 =>
bindP (faddrO 12 v28) fun v29 =>
bindP (aload H25 none v29) fun v30 =>
bindP (abin .gtr v27 v30) fun v31 =>
bindP (boolOf v31) fun b32 =>
(b32 = true → (bindP (buildO z903586 []) fun v33 =>
bindP (buildO z652358 []) fun v34 =>
bindP (astore lim H25 13 (.ptr (some (H.next, 0))) v33) fun H35 =>
bindP (astore lim H35 13 (.ptr (some ((H.push (.cells z903586)).next, 0))) v34) fun H36 =>
bindP (aload H36 (some 13) (.ptr (some (H.next, 0)))) fun v37 =>
bindP (aload H36 (some 13) (.ptr (some ((H.push (.cells z903586)).next, 0)))) fun v38 =>
K (.tup [v37, v38, (.int .u8 2)]) H36)) ∧
(b32 = false → (bindP (abin .eql a1 (.int .u8 0)) fun v39 =>
bindP (gd (some (v39, false)) (some a1)) fun v40 =>
bindP (gd (some (v39, false)) (some v26)) fun v41 =>
bindP (gd (some (v39, false)) (abin .eql v40 v41)) fun v42 =>
bindP (pickO v39 (.bool true) v42) fun v43 =>
bindP (gd (some (v43, false)) (some a1)) fun v44 =>
bindP (gd (some (v43, false)) (abin .gtr v44 (.int .u8 31))) fun v45 =>
bindP (pickO v43 (.bool true) v45) fun v46 =>
bindP (gd (some (v46, false)) (some v26)) fun v47 =>
bindP (gd (some (v46, false)) (some a1)) fun v48 =>
bind2 (gd2 (some (v46, false)) H25 (R lim (.fn 72) [v47, v48] H25)) fun v49 H50 =>
bindP (gd (some (v46, false)) (aun .not v49)) fun v51 =>
bindP (pickO v46 (.bool true) v51) fun v52 =>
bindP (boolOf v52) fun b53 =>
(b53 = true → (bindP (buildO z903586 []) fun v54 =>
bindP (buildO z652358 []) fun v55 =>
bindP (astore lim H50 13 (.ptr (some (H.next, 0))) v54) fun H56 =>
bindP (astore lim H56 13 (.ptr (some ((H.push (.cells z903586)).next, 0))) v55) fun H57 =>
bindP (aload H57 (some 13) (.ptr (some (H.next, 0)))) fun v58 =>
bindP (aload H57 (some 13) (.ptr (some ((H.push (.cells z903586)).next, 0)))) fun v59 =>
K (.tup [v58, v59, (.int .u8 11)]) H57)) ∧
(b53 = false → (bindP (buildO zdff0c5 []) fun v60 =>
bind2 ((fillV [(.int .u8 0)] [(0, 1, a1)]).map fun cs => (.sl (some (H50.next, 0)) 1 (.ex 1), H50.push (.cells cs))) fun v61 H62 =>
bindP (abytesToStr H62 v61) fun v63 =>
bind2 (R lim (.fn 44) [a0, (.int .u8 2), (.int .u8 0), v60, v63] H62) fun v64 H65 =>
bindP (extO 0 v64) fun v66 =>
bindP (extO 1 v64) fun v67 =>
bindP (extO 2 v64) fun v68 =>
bindP (astore lim ((H65.push (.cells z903586)).push (.cells z652358)) 13 (.ptr (some (H65.next, 0))) v66) fun H69 =>
bindP (astore lim H69 13 (.ptr (some ((H65.push (.cells z903586)).next, 0))) v67) fun H70 =>
bindP (aload H70 (some 13) (.ptr (some (H65.next, 0)))) fun v71 =>
(apartB (.ptr (some ((H65.push (.cells z903586)).next, 0))) (.ptr (some (H.next, 0))) && true) = true ∧
bindP (aload H70 (some 13) (.ptr (some ((H65.push (.cells z903586)).next, 0)))) fun v72 =>
bindP (astore lim H70 13 (.ptr (some (H.next, 0))) v71) fun H73 =>
bindP (astore lim H73 13 (.ptr (some ((H.push (.cells z903586)).next, 0))) v72) fun H74 =>
bindP (aload H74 (some 13) (.ptr (some (H.next, 0)))) fun v75 =>
bindP (aload H74 (some 13) (.ptr (some ((H.push (.cells z903586)).next, 0)))) fun v76 =>
K (.tup [v75, v76, (.int .u8 0)]) H74))))))
def F19_Lp (R : Caller) (lim n : Nat) (K : AVal → Heap → Prop) : Nat → Tm → Heap → Prop
  | _, _, _ => False
theorem F19_eq (R : Caller) (lim n : Nat) (K : AVal → Heap → Prop) (a0 a1 : AVal) (H : Heap) : F19 R lim n K a0 a1 H = execI R lim n 77 (F19_Lp R lim n K) f19.body (argT [a0, a1]) H (retW [(.cell 4 (some 13)), (.cell 5 (some 13)), (.tmp 6)] K) := by kernel_rfl
theorem F19_ob (R : Caller) (lim n : Nat) (K : AVal → Heap → Prop) : Oblig R lim n 77 (F19_Lp R lim n K) f19.body (retW [(.cell 4 (some 13)), (.cell 5 (some 13)), (.tmp 6)] K) := (oblig_nl (by kernel_rfl))
theorem F19_run {ap : FuncId → Option AFn} (hf : ap 19 = some (.code f19)) {n lim : Nat} {K : AVal → Heap → Prop} {a0 a1 : AVal} {H : Heap} (h : F19 (Ahs.runT ap n) lim n K a0 a1 H) : ∃ v H', Ahs.runT ap (n + 1) lim (.fn 19) [a0, a1] H = some (v, H') ∧ K v H' := by
  rw [F19_eq] at h
  exact run_of_W hf (by kernel_rfl) (by kernel_rfl) (execI_sound f19.body _ _ _ _ (F19_ob _ _ _ K) (fun _ _ _ h => h) h)
def F20 (R : Caller) (lim n : Nat) (K : AVal → Heap → Prop) (a0 a1 : AVal) (H : Heap) : Prop :=
bind2 (R lim (.fn 53) [a0] ((H.push (.cells z652358)).push (.cells z652358))) fun v1 H2 =>
bindP (gd (some (v1, false)) (some a0)) fun v3 =>
bindP (gd (some (v1, false)) (nilO v3)) fun v4 =>
bindP (gd (some (v1, false)) (faddrO 13 v4)) fun v5 =>
bindP (gd (some (v1, false)) (aload H2 none v5)) fun v6 =>
bindP (gd (some (v1, false)) (abin .neq v6 (.int .i64 2))) fun v7 =>
bindP (pickO v1 (.bool true) v7) fun v8 =>
bindP (gd (some (v8, false)) (some a1)) fun v9 =>
bindP (gd (some (v8, false)) (some a0)) fun v10 =>
bindP (gd (some (v8, false)) (nilO v10)) fun v11 =>
bindP (gd (some (v8, false)) (faddrO 0 v11)) fun v12 =>
bindP (gd (some (v8, false)) (aload H2 none v12)) fun v13 =>
bindP (gd (some (v8, false)) (abin .eql v9 v13)) fun v14 =>
bindP (pickO v8 (.bool true) v14) fun v15 =>
bindP (gd (some (v15, false)) (some a0)) fun v16 =>
bind2 (gd2 (some (v15, false)) H2 (R lim (.fn 21) [v16] H2)) fun v17 H18 =>
bindP (gd (some (v15, false)) (some a1)) fun v19 =>
bind2 (gd2 (some (v15, false)) H18 (R lim (.fn 73) [v17, v19] H18)) fun v20 H21 =>
bindP (gd (some (v15, false)) (aun .not v20)) fun v22 =>
bindP (pickO v15 (.bool true) v22) fun v23 =>
bindP (boolOf v23) fun b24 =>
(b24 = true → (bindP (aload H21 (some 13) (.ptr (some ((H.push (.cells z652358)).next, 0)))) fun v25 =>
bindP (astore lim H21 13 (.ptr (some (H.next, 0))) v25) fun H26 =>
bindP (aload H26 (some 13) (.ptr (some (H.next, 0)))) fun v27 =>
K (.tup [v27, (.bool false)]) H26)) ∧
(b24 = false → (bindP (nilO a0) fun v28 =>
bindP (faddrO 22 v28) fun v29 =>
bindP (astore lim H21 1 v29 a1) fun H30 =>
bind2 (R lim (.fn 74) [a0, (.ptr (some ((H.push (.cells z652358)).next, 0)))] H30) fun v31 H32 =>
bindP (aload H32 (some 13) (.ptr (some ((H.push (.cells z652358)).next, 0)))) fun v33 =>
bindP (astore lim H32 13 (.ptr (some (H.next, 0))) v33) fun H34 =>
bindP (aload H34 (some 13) (.ptr (some (H.next, 0)))) fun v35 =>
K (.tup [v35, (.bool true)]) H34))
def F20_Lp (R : Caller) (lim n : Nat) (K : AVal → Heap → Prop) : Nat → Tm → Heap → Prop
  | _, _, _ => False
theorem F20_eq (R : Caller) (lim n : Nat) (K : AVal → Heap → Prop) (a0 a1 : AVal) (H : Heap) : F20 R lim n K a0 a1 H = execI R lim n 39 (F20_Lp R lim n K) f20.body (argT [a0, a1]) H (retW [(.cell 4 (some 13)), (.tmp 5)] K) := by kernel_rfl
theorem F20_ob (R : Caller) (lim n : Nat) (K : AVal → Heap → Prop) : Oblig R lim n 39 (F20_Lp R lim n K) f20.body (retW [(.cell 4 (some 13)), (.tmp 5)] K) := (oblig_nl (by kernel_rfl))
theorem F20_run {ap : FuncId → Option AFn} (hf : ap 20 = some (.code f20)) {n lim : Nat} {K : AVal → Heap → Prop} {a0 a1 : AVal} {H : Heap} (h : F20 (Ahs.runT ap n) lim n K a0 a1 H) : ∃ v H', Ahs.runT ap (n + 1) lim (.fn 20) [a0, a1] H = some (v, H') ∧ K v H' := by
  rw [F20_eq] at h
  exact run_of_W hf (by kernel_rfl) (by kernel_rfl) (execI_sound f20.body _ _ _ _ (F20_ob _ _ _ K) (fun _ _ _ h => h) h)
def F21 (R : Caller) (lim n : Nat) (K : AVal → Heap → Prop) (a0 : AVal) (H : Heap) : Prop :=
bind2 (R lim (.fn 53) [a0] H) fun v1 H2 =>
bindP (boolOf v1) fun b3 =>
(b3 = true → (K (.int .u8 0) H2)) ∧
(b3 = false → (bindP (nilO a0) fun v4 =>
bindP (faddrO 3 v4) fun v5 =>
bindP (aload H2 none v5) fun v6 =>
bind2 (R lim (.fn 71) [v6] H2) fun v7 H8 =>
bindP (extO 0 v7) fun v9 =>
bindP (extO 1 v7) fun v10 =>
K v9 H8))
def F21_Lp (R : Caller) (lim n : Nat) (K : AVal → Heap → Prop) : Nat → Tm → Heap → Prop
  | _, _, _ => False
theorem F21_eq (R : Caller) (lim n : Nat) (K : AVal → Heap → Prop) (a0 : AVal) (H : Heap) : F21 R lim n K a0 H = execI R lim n 16 (F21_Lp R lim n K) f21.body (argT [a0]) H (retW [(.tmp 2)] K) := by kernel_rfl
theorem F21_ob (R : Caller) (lim n : Nat) (K : AVal → Heap → Prop) : Oblig R lim n 16 (F21_Lp R lim n K) f21.body (retW [(.tmp 2)] K) := (oblig_nl (by kernel_rfl))
theorem F21_run {ap : FuncId → Option AFn} (hf : ap 21 = some (.code f21)) {n lim : Nat} {K : AVal → Heap → Prop} {a0 : AVal} {H : Heap} (h : F21 (Ahs.runT ap n) lim n K a0 H) : ∃ v H', Ahs.runT ap (n + 1) lim (.fn 21) [a0] H = some (v, H') ∧ K v H' := by
  rw [F21_eq] at h
  exact run_of_W hf (by kernel_rfl) (by kernel_rfl) (execI_sound f21.body _ _ _ _ (F21_ob _ _ _ K) (fun _ _ _ h => h) h)
def F22 (R : Caller) (lim n : Nat) (K : AVal → Heap → Prop) (a0 : AVal) (H : Heap) : Prop :=
bind2 (R lim (.fn 53) [a0] H) fun v1 H2 =>
bindP (boolOf v1) fun b3 =>
(b3 = true → (K (.int .u8 0) H2)) ∧
(b3 = false → (bindP (nilO a0) fun v4 =>
bindP (faddrO 2 v4) fun v5 =>
bindP (aload H2 none v5) fun v6 =>
K v6 H2))
def F22_Lp (R : Caller) (lim n : Nat) (K : AVal → Heap → Prop) : Nat → Tm → Heap → Prop
  | _, _, _ => False
theorem F22_eq (R : Caller) (lim n : Nat) (K : AVal → Heap → Prop) (a0 : AVal) (H : Heap) : F22 R lim n K a0 H = execI R lim n 9 (F22_Lp R lim n K) f22.body (argT [a0]) H (retW [(.tmp 2)] K) := by kernel_rfl
theorem F22_ob (R : Caller) (lim n : Nat) (K : AVal → Heap → Prop) : Oblig R lim n 9 (F22_Lp R lim n K) f22.body (retW [(.tmp 2)] K) := (oblig_nl (by kernel_rfl))
theorem F22_run {ap : FuncId → Option AFn} (hf : ap 22 = some (.code f22)) {n lim : Nat} {K : AVal → Heap → Prop} {a0 : AVal} {H : Heap} (h : F22 (Ahs.runT ap n) lim n K a0 H) : ∃ v H', Ahs.runT ap (n + 1) lim (.fn 22) [a0] H = some (v, H') ∧ K v H' := by
  rw [F22_eq] at h
  exact run_of_W hf (by kernel_rfl) (by kernel_rfl) (execI_sound f22.body _ _ _ _ (F22_ob _ _ _ K) (fun _ _ _ h => h) h)
def F24_j0 (R : Caller) (lim n : Nat) (K : AVal → Heap → Prop) (H : Heap) : Prop :=
K (.bool false) H
def F24_s0 (R : Caller) (lim n : Nat) (K : AVal → Heap → Prop) (rec0 : AVal → AVal → Heap → Prop) (t0 t3 : AVal) (H : Heap) : Prop :=
bindP (alen false t0) fun v51 =>
bindP (abin .lss t3 v51) fun v52 =>
bindP (boolOf v52) fun b53 =>
(b53 = true → (bindP (aindexAddr none 36 t0 t3) fun v54 =>
bindP (faddrO 5 v54) fun v55 =>
bindP (aload H (some 13) v55) fun v56 =>
bindP (astore lim (H.push (.cells zced54c)) 13 (.ptr (some (H.next, 0))) v56) fun H57 =>
bindP (aindexAddr none 36 t0 t3) fun v58 =>
bindP (faddrO 26 v58) fun v59 =>
bindP (aload H57 none v59) fun v60 =>
bindP (alen true v60) fun v61 =>
bindP (abin .gtr v61 (.int .i64 100)) fun v62 =>
bindP (gd (some (v62, false)) (faddrO 12 (.ptr (some (H.next, 0))))) fun v63 =>
bindP (gd (some (v62, false)) (aload H57 none v63)) fun v64 =>
bindP (gd (some (v62, false)) (alen true v64)) fun v65 =>
bindP (gd (some (v62, false)) (abin .gtr v65 (.int .i64 100))) fun v66 =>
bindP (pickO v62 (.bool true) v66) fun v67 =>
bindP (gd (some (v67, false)) (faddrO 11 (.ptr (some (H.next, 0))))) fun v68 =>
bindP (gd (some (v67, false)) (aload H57 none v68)) fun v69 =>
bind2 (gd2 (some (v67, false)) H57 (R lim (.fn 75) [v69] H57)) fun v70 H71 =>
bindP (pickO v67 (.bool true) v70) fun v72 =>
bindP (gd (some (v72, false)) (faddrO 3 (.ptr (some (H.next, 0))))) fun v73 =>
bindP (gd (some (v72, false)) (aload H71 none v73)) fun v74 =>
bind2 (gd2 (some (v72, false)) H71 (R lim (.fn 76) [v74] H71)) fun v75 H76 =>
bindP (pickO v72 (.bool true) v75) fun v77 =>
bindP (gd (some (v77, false)) (faddrO 4 (.ptr (some (H.next, 0))))) fun v78 =>
bindP (gd (some (v77, false)) (aload H76 none v78)) fun v79 =>
bind2 (gd2 (some (v77, false)) H76 (R lim (.fn 76) [v79] H76)) fun v80 H81 =>
bindP (pickO v77 (.bool true) v80) fun v82 =>
bindP (gd (some (v82, false)) (faddrO 5 (.ptr (some (H.next, 0))))) fun v83 =>
bindP (gd (some (v82, false)) (aload H81 none v83)) fun v84 =>
bind2 (gd2 (some (v82, false)) H81 (R lim (.fn 76) [v84] H81)) fun v85 H86 =>
bindP (pickO v82 (.bool true) v85) fun v87 =>
bindP (gd (some (v87, false)) (some t0)) fun v88 =>
bindP (gd (some (v87, false)) (some t3)) fun v89 =>
bindP (gd (some (v87, false)) (aindexAddr none 36 v88 v89)) fun v90 =>
bindP (gd (some (v87, false)) (faddrO 28 v90)) fun v91 =>
bindP (gd (some (v87, false)) (aload H86 (some 8) v91)) fun v92 =>
bind2 (gd2 (some (v87, false)) H86 (R lim (.fn 77) [v92] H86)) fun v93 H94 =>
bindP (pickO v87 (.bool true) v93) fun v95 =>
bindP (boolOf v95) fun b96 =>
(b96 = true → (K (.bool true) H94)) ∧
(b96 = false → (bindP (abin .add t3 (.int .i64 1)) fun v97 =>
rec0 t0 v97 H94)))) ∧
(b53 = false → (F24_j0 R lim n K H))
def F24_l0 (R : Caller) (lim n : Nat) (K : AVal → Heap → Prop) : Nat → AVal → AVal → Heap → Prop
  | 0, _, _, _ => False
  | m + 1, t0, t3, H => F24_s0 R lim n K (F24_l0 R lim n K m) t0 t3 H
def F24 (R : Caller) (lim n : Nat) (K : AVal → Heap → Prop) (a0 : AVal) (H : Heap) : Prop :=
bindP (alen false a0) fun v1 =>
bindP (abin .gtr v1 (.int .i64 60)) fun v2 =>
bindP (boolOf v2) fun b3 =>
(b3 = true → (K (.bool true) H)) ∧
(b3 = false → (F24_l0 R lim n K n a0 (.int .i64 0) H))
def F24_Lp (R : Caller) (lim n : Nat) (K : AVal → Heap → Prop) : Nat → Tm → Heap → Prop
  | 0, T, H => F24_l0 R lim n K n (T 0) (T 3) H
  | _, _, _ => False
def F24_Lp0 (R : Caller) (lim n : Nat) (K : AVal → Heap → Prop) (rec0 : AVal → AVal → Heap → Prop) : Nat → Tm → Heap → Prop
  | _, _, _ => False
def F24_k0 (R : Caller) (lim n : Nat) (K : AVal → Heap → Prop) (rec0 : AVal → AVal → Heap → Prop) : Kt := fun ex T H => match ex with
  | .norm => rec0 (T 0) (T 3) H
  | ex => (kBlk 0 (kSeq (execI R lim n 60 (F24_Lp R lim n K) f24_p1) (retW [(.tmp 2)] K))) ex T H
theorem F24_s0_eq (R : Caller) (lim n : Nat) (K : AVal → Heap → Prop) (rec0 : AVal → AVal → Heap → Prop) (T : Tm) (H : Heap) : F24_s0 R lim n K rec0 (T 0) (T 3) H = execI R lim n 60 (F24_Lp0 R lim n K rec0) f24_p0 T H (F24_k0 R lim n K rec0) := by kernel_rfl
theorem F24_l0_ok (R : Caller) (lim n : Nat) (K : AVal → Heap → Prop) {kw : Kt} (hk : ∀ ex T H, (kBlk 0 (kSeq (execI R lim n 60 (F24_Lp R lim n K) f24_p1) (retW [(.tmp 2)] K))) ex T H → kw ex T H) : ∀ (m : Nat) (T : Tm) (H : Heap), F24_l0 R lim n K m (T 0) (T 3) H → loopW (execW R lim n 60 f24_p0) m T H kw
  | 0, _, _, h => False.elim h
  | m + 1, T, H, h => by
    have hb : ∀ ex T H, F24_k0 R lim n K (F24_l0 R lim n K m) ex T H → (fun ex T H => match ex with | .norm => loopW (execW R lim n 60 f24_p0) m T H kw | ex => kw ex T H : Kt) ex T H := by
      intro ex T H h
      cases ex with
      | norm => exact F24_l0_ok R lim n K hk m T H h
      | exit i => exact hk _ _ _ h
      | ret => exact hk _ _ _ h
    have h' : F24_s0 R lim n K (F24_l0 R lim n K m) (T 0) (T 3) H := h
    rw [F24_s0_eq] at h'
    exact execI_sound f24_p0 T H _ _ (oblig_nl (by kernel_rfl)) hb h'
theorem F24_eq (R : Caller) (lim n : Nat) (K : AVal → Heap → Prop) (a0 : AVal) (H : Heap) : F24 R lim n K a0 H = execI R lim n 60 (F24_Lp R lim n K) f24.body (argT [a0]) H (retW [(.tmp 2)] K) := by kernel_rfl
theorem F24_ob (R : Caller) (lim n : Nat) (K : AVal → Heap → Prop) : Oblig R lim n 60 (F24_Lp R lim n K) f24.body (retW [(.tmp 2)] K) := ⟨(oblig_nl (by kernel_rfl)), ⟨(oblig_nl (by kernel_rfl)), ⟨⟨(oblig_nl (by kernel_rfl)), (fun T H h => F24_l0_ok R lim n K (kBlk_mono (kSeqI_sound (oblig_nl (by kernel_rfl)) (fun _ _ _ h => h))) _ T H h)⟩, (oblig_nl (by kernel_rfl))⟩⟩⟩
theorem F24_run {ap : FuncId → Option AFn} (hf : ap 24 = some (.code f24)) {n lim : Nat} {K : AVal → Heap → Prop} {a0 : AVal} {H : Heap} (h : F24 (Ahs.runT ap n) lim n K a0 H) : ∃ v H', Ahs.runT ap (n + 1) lim (.fn 24) [a0] H = some (v, H') ∧ K v H' := by
  rw [F24_eq] at h
  exact run_of_W hf (by kernel_rfl) (by kernel_rfl) (execI_sound f24.body _ _ _ _ (F24_ob _ _ _ K) (fun _ _ _ h => h) h)
def F32 (R : Caller) (lim n : Nat) (K : AVal → Heap → Prop) (a0 : AVal) (H : Heap) : Prop :=
bind2 (R lim (.fn 53) [a0] (H.push (.cells z15c467))) fun v1 H2 =>
bindP (boolOf v1) fun b3 =>
(b3 = true → (bindP (buildO z15c467 []) fun v4 =>
bindP (astore lim H2 8 (.ptr (some (H.next, 0))) v4) fun H5 =>
bindP (aload H5 (some 8) (.ptr (some (H.next, 0)))) fun v6 =>
K v6 H5)) ∧
(b3 = false → (bindP (nilO a0) fun v7 =>
bindP (faddrO 4 v7) fun v8 =>
bindP (aload H2 (some 8) v8) fun v9 =>
bindP (astore lim H2 8 (.ptr (some (H.next, 0))) v9) fun H10 =>
bindP (aload H10 (some 8) (.ptr (some (H.next, 0)))) fun v11 =>
K v11 H10))
def F32_Lp (R : Caller) (lim n : Nat) (K : AVal → Heap → Prop) : Nat → Tm → Heap → Prop
  | _, _, _ => False
theorem F32_eq (R : Caller) (lim n : Nat) (K : AVal → Heap → Prop) (a0 : AVal) (H : Heap) : F32 R lim n K a0 H = execI R lim n 10 (F32_Lp R lim n K) f32.body (argT [a0]) H (retW [(.cell 2 (some 8))] K) := by kernel_rfl
theorem F32_ob (R : Caller) (lim n : Nat) (K : AVal → Heap → Prop) : Oblig R lim n 10 (F32_Lp R lim n K) f32.body (retW [(.cell 2 (some 8))] K) := (oblig_nl (by kernel_rfl))
theorem F32_run {ap : FuncId → Option AFn} (hf : ap 32 = some (.code f32)) {n lim : Nat} {K : AVal → Heap → Prop} {a0 : AVal} {H : Heap} (h : F32 (Ahs.runT ap n) lim n K a0 H) : ∃ v H', Ahs.runT ap (n + 1) lim (.fn 32) [a0] H = some (v, H') ∧ K v H' := by
  rw [F32_eq] at h
  exact run_of_W hf (by kernel_rfl) (by kernel_rfl) (execI_sound f32.body _ _ _ _ (F32_ob _ _ _ K) (fun _ _ _ h => h) h)
def F34 (R : Caller) (lim n : Nat) (K : AVal → Heap → Prop) (a0 : AVal) (H : Heap) : Prop :=
bind2 (R lim (.fn 53) [a0] H) fun v1 H2 =>
bindP (boolOf v1) fun b3 =>
(b3 = true → (K (.int .u64 0) H2)) ∧
(b3 = false → (bindP (nilO a0) fun v4 =>
bindP (faddrO 1 v4) fun v5 =>
bindP (aload H2 none v5) fun v6 =>
K v6 H2))
def F34_Lp (R : Caller) (lim n : Nat) (K : AVal → Heap → Prop) : Nat → Tm → Heap → Prop
  | _, _, _ => False
theorem F34_eq (R : Caller) (lim n : Nat) (K : AVal → Heap → Prop) (a0 : AVal) (H : Heap) : F34 R lim n K a0 H = execI R lim n 9 (F34_Lp R lim n K) f34.body (argT [a0]) H (retW [(.tmp 2)] K) := by kernel_rfl
theorem F34_ob (R : Caller) (lim n : Nat) (K : AVal → Heap → Prop) : Oblig R lim n 9 (F34_Lp R lim n K) f34.body (retW [(.tmp 2)] K) := (oblig_nl (by kernel_rfl))
theorem F34_run {ap : FuncId → Option AFn} (hf : ap 34 = some (.code f34)) {n lim : Nat} {K : AVal → Heap → Prop} {a0 : AVal} {H : Heap} (h : F34 (Ahs.runT ap n) lim n K a0 H) : ∃ v H', Ahs.runT ap (n + 1) lim (.fn 34) [a0] H = some (v, H') ∧ K v H' := by
  rw [F34_eq] at h
  exact run_of_W hf (by kernel_rfl) (by kernel_rfl) (execI_sound f34.body _ _ _ _ (F34_ob _ _ _ K) (fun _ _ _ h => h) h)
def F35 (R : Caller) (lim n : Nat) (K : AVal → Heap → Prop) (a0 a1 a2 : AVal) (H : Heap) : Prop :=
bind2 (R lim (.fn 53) [a0] H) fun v1 H2 =>
bindP (boolOf v1) fun b3 =>
(b3 = true → (K (.sl none 0 (.ex 0)) H2)) ∧
(b3 = false → (bindP (nilO a0) fun v4 =>
bindP (faddrO 3 v4) fun v5 =>
bindP (aload H2 none v5) fun v6 =>
bind2 (R lim (.fn 80) [v6, a1, a2] H2) fun v7 H8 =>
K v7 H8))
def F35_Lp (R : Caller) (lim n : Nat) (K : AVal → Heap → Prop) : Nat → Tm → Heap → Prop
  | _, _, _ => False
theorem F35_eq (R : Caller) (lim n : Nat) (K : AVal → Heap → Prop) (a0 a1 a2 : AVal) (H : Heap) : F35 R lim n K a0 a1 a2 H = execI R lim n 16 (F35_Lp R lim n K) f35.body (argT [a0, a1, a2]) H (retW [(.tmp 6)] K) := by kernel_rfl
theorem F35_ob (R : Caller) (lim n : Nat) (K : AVal → Heap → Prop) : Oblig R lim n 16 (F35_Lp R lim n K) f35.body (retW [(.tmp 6)] K) := (oblig_nl (by kernel_rfl))
theorem F35_run {ap : FuncId → Option AFn} (hf : ap 35 = some (.code f35)) {n lim : Nat} {K : AVal → Heap → Prop} {a0 a1 a2 : AVal} {H : Heap} (h : F35 (Ahs.runT ap n) lim n K a0 a1 a2 H) : ∃ v H', Ahs.runT ap (n + 1) lim (.fn 35) [a0, a1, a2] H = some (v, H') ∧ K v H' := by
  rw [F35_eq] at h
  exact run_of_W hf (by kernel_rfl) (by kernel_rfl) (execI_sound f35.body _ _ _ _ (F35_ob _ _ _ K) (fun _ _ _ h => h) h)
def F44 (R : Caller) (lim n : Nat) (K : AVal → Heap → Prop) (a0 a1 a2 a3 a4 : AVal) (H : Heap) : Prop :=
bind2 (if (a3).cells.all (·.one) then some (.ptr (some (H.next, 0)), H.push (.cells (a3).cells)) else none) fun v1 H2 =>
bind2 (R lim (.fn 53) [a0] (((H2.push (.cells z903586)).push (.cells z652358)).push (.cells z652358))) fun v3 H4 =>
bindP (gd (some (v3, false)) (some a0)) fun v5 =>
bindP (gd (some (v3, false)) (nilO v5)) fun v6 =>
bindP (gd (some (v3, false)) (faddrO 13 v6)) fun v7 =>
bindP (gd (some (v3, false)) (aload H4 none v7)) fun v8 =>
bindP (gd (some (v3, false)) (abin .neq v8 (.int .i64 2))) fun v9 =>
bindP (pickO v3 (.bool true) v9) fun v10 =>
bindP (boolOf v10) fun b11 =>
(b11 = true → (bindP (buildO z903586 []) fun v12 =>
(apartB (.ptr (some (((H2.push (.cells z903586)).push (.cells z652358)).next, 0))) (.ptr (some (H2.next, 0))) && true) = true ∧
bindP (aload H4 (some 13) (.ptr (some (((H2.push (.cells z903586)).push (.cells z652358)).next, 0)))) fun v13 =>
bindP (astore lim H4 13 (.ptr (some (H2.next, 0))) v12) fun H14 =>
bindP (astore lim H14 13 (.ptr (some ((H2.push (.cells z903586)).next, 0))) v13) fun H15 =>
bindP (aload H15 (some 13) (.ptr (some (H2.next, 0)))) fun v16 =>
bindP (aload H15 (some 13) (.ptr (some ((H2.push (.cells z903586)).next, 0)))) fun v17 =>
K (.tup [v16, v17, (.bool false)]) H15)) ∧
(b11 = false → (bindP (aload H4 (some 8) v1) fun v18 =>
bindP (buildO z903586 [(2, 1, a1), (3, 1, a2), (4, 8, v18), (12, 1, a4)]) fun v19 =>
bind2 (R lim (.fn 93) [a0, (.ptr (some (((H2.push (.cells z903586)).push (.cells z652358)).next, 0))), v19] H4) fun v20 H21 =>
bindP (astore lim (H21.push (.cells z903586)) 13 (.ptr (some (H21.next, 0))) v20) fun H22 =>
bindP (aload H22 (some 13) (.ptr (some (H21.next, 0)))) fun v23 =>
(apartB (.ptr (some (((H2.push (.cells z903586)).push (.cells z652358)).next, 0))) (.ptr (some (H2.next, 0))) && true) = true ∧
bindP (aload H22 (some 13) (.ptr (some (((H2.push (.cells z903586)).push (.cells z652358)).next, 0)))) fun v24 =>
bindP (astore lim H22 13 (.ptr (some (H2.next, 0))) v23) fun H25 =>
bindP (astore lim H25 13 (.ptr (some ((H2.push (.cells z903586)).next, 0))) v24) fun H26 =>
bindP (aload H26 (some 13) (.ptr (some (H2.next, 0)))) fun v27 =>
bindP (aload H26 (some 13) (.ptr (some ((H2.push (.cells z903586)).next, 0)))) fun v28 =>
K (.tup [v27, v28, (.bool true)]) H26))
def F44_Lp (R : Caller) (lim n : Nat) (K : AVal → Heap → Prop) : Nat → Tm → Heap → Prop
  | _, _, _ => False
theorem F44_eq (R : Caller) (lim n : Nat) (K : AVal → Heap → Prop) (a0 a1 a2 a3 a4 : AVal) (H : Heap) : F44 R lim n K a0 a1 a2 a3 a4 H = execI R lim n 35 (F44_Lp R lim n K) f44.body (argT [a0, a1, a2, a3, a4]) H (retW [(.cell 10 (some 13)), (.cell 11 (some 13)), (.tmp 12)] K) := by kernel_rfl
theorem F44_ob (R : Caller) (lim n : Nat) (K : AVal → Heap → Prop) : Oblig R lim n 35 (F44_Lp R lim n K) f44.body (retW [(.cell 10 (some 13)), (.cell 11 (some 13)), (.tmp 12)] K) := (oblig_nl (by kernel_rfl))
theorem F44_run {ap : FuncId → Option AFn} (hf : ap 44 = some (.code f44)) {n lim : Nat} {K : AVal → Heap → Prop} {a0 a1 a2 a3 a4 : AVal} {H : Heap} (h : F44 (Ahs.runT ap n) lim n K a0 a1 a2 a3 a4 H) : ∃ v H', Ahs.runT ap (n + 1) lim (.fn 44) [a0, a1, a2, a3, a4] H = some (v, H') ∧ K v H' := by
  rw [F44_eq] at h
  exact run_of_W hf (by kernel_rfl) (by kernel_rfl) (execI_sound f44.body _ _ _ _ (F44_ob _ _ _ K) (fun _ _ _ h => h) h)
def F45 (R : Caller) (lim n : Nat) (K : AVal → Heap → Prop) (a0 : AVal) (H : Heap) : Prop :=
bind2 (R lim (.fn 53) [a0] H) fun v1 H2 =>
bindP (boolOf v1) fun b3 =>
(b3 = true → (K (.tup [(.int .u64 0), (.int .u64 0)]) H2)) ∧
(b3 = false → (bindP (nilO a0) fun v4 =>
bindP (faddrO 3 v4) fun v5 =>
bindP (aload H2 none v5) fun v6 =>
bind2 (R lim (.fn 94) [v6] H2) fun v7 H8 =>
bindP (extO 0 v7) fun v9 =>
bindP (extO 1 v7) fun v10 =>
K (.tup [v9, v10]) H8))
def F45_Lp (R : Caller) (lim n : Nat) (K : AVal → Heap → Prop) : Nat → Tm → Heap → Prop
  | _, _, _ => False
theorem F45_eq (R : Caller) (lim n : Nat) (K : AVal → Heap → Prop) (a0 : AVal) (H : Heap) : F45 R lim n K a0 H = execI R lim n 13 (F45_Lp R lim n K) f45.body (argT [a0]) H (retW [(.tmp 2), (.tmp 3)] K) := by kernel_rfl
theorem F45_ob (R : Caller) (lim n : Nat) (K : AVal → Heap → Prop) : Oblig R lim n 13 (F45_Lp R lim n K) f45.body (retW [(.tmp 2), (.tmp 3)] K) := (oblig_nl (by kernel_rfl))
theorem F45_run {ap : FuncId → Option AFn} (hf : ap 45 = some (.code f45)) {n lim : Nat} {K : AVal → Heap → Prop} {a0 : AVal} {H : Heap} (h : F45 (Ahs.runT ap n) lim n K a0 H) : ∃ v H', Ahs.runT ap (n + 1) lim (.fn 45) [a0] H = some (v, H') ∧ K v H' := by
  rw [F45_eq] at h
  exact run_of_W hf (by kernel_rfl) (by kernel_rfl) (execI_sound f45.body _ _ _ _ (F45_ob _ _ _ K) (fun _ _ _ h => h) h)
def F46 (R : Caller) (lim n : Nat) (K : AVal → Heap → Prop) (a0 a1 : AVal) (H : Heap) : Prop :=
bind2 (if (a1).cells.all (·.one) then some (.ptr (some (H.next, 0)), H.push (.cells (a1).cells)) else none) fun v1 H2 =>
bind2 (R lim (.fn 53) [a0] H2) fun v3 H4 =>
bindP (boolOf v3) fun b5 =>
(b5 = true → (K (.int .i64 1) H4)) ∧
(b5 = false → (bindP (nilO a0) fun v6 =>
bindP (faddrO 3 v6) fun v7 =>
bindP (aload H4 none v7) fun v8 =>
bind2 (R lim (.fn 95) [v8] H4) fun v9 H10 =>
bindP (extO 0 v9) fun v11 =>
bindP (extO 1 v9) fun v12 =>
bindP (faddrO 0 v1) fun v13 =>
bindP (aload H10 none v13) fun v14 =>
bindP (abin .leq v14 v11) fun v15 =>
bindP (boolOf v15) fun b16 =>
(b16 = true → (K (.int .i64 10) H10)) ∧
(b16 = false → (bindP (faddrO 0 v1) fun v17 =>
bindP (aload H10 none v17) fun v18 =>
bindP (nilO a0) fun v19 =>
bindP (faddrO 12 v19) fun v20 =>
bindP (aload H10 none v20) fun v21 =>
bindP (abin .gtr v18 v21) fun v22 =>
bindP (boolOf v22) fun b23 =>
(b23 = true → (K (.int .i64 4) H10)) ∧
(b23 = false → (bindP (nilO a0) fun v24 =>
bindP (faddrO 3 v24) fun v25 =>
bindP (aload H10 none v25) fun v26 =>
bindP (faddrO 0 v1) fun v27 =>
bindP (aload H10 none v27) fun v28 =>
bind2 (R lim (.fn 96) [v26, v28] H10) fun v29 H30 =>
bindP (extO 0 v29) fun v31 =>
bindP (extO 1 v29) fun v32 =>
bindP (aun .not v32) fun v33 =>
bindP (gd (some (v33, false)) (some v31)) fun v34 =>
bindP (gd (some (v33, false)) (faddrO 1 v1)) fun v35 =>
bindP (gd (some (v33, false)) (aload H30 none v35)) fun v36 =>
bindP (gd (some (v33, false)) (abin .neq v34 v36)) fun v37 =>
bindP (pickO v33 (.bool true) v37) fun v38 =>
bindP (gd (some (v38, false)) (some a0)) fun v39 =>
bindP (gd (some (v38, false)) (nilO v39)) fun v40 =>
bindP (gd (some (v38, false)) (faddrO 3 v40)) fun v41 =>
bindP (gd (some (v38, false)) (aload H30 none v41)) fun v42 =>
bindP (gd (some (v38, false)) (faddrO 0 v1)) fun v43 =>
bindP (gd (some (v38, false)) (aload H30 none v43)) fun v44 =>
bind2 (gd2 (some (v38, false)) H30 (R H30.next (.fn 97) [v42, v44] H30)) fun v45 H46 =>
bindP (gd (some (v38, false)) (faddrO 2 v1)) fun v47 =>
bindP (gd (some (v38, false)) (aload H46 none v47)) fun v48 =>
bindP (gd (some (v38, false)) (abin .neq v45 v48)) fun v49 =>
bindP (pickO v38 (.bool true) v49) fun v50 =>
bindP (boolOf v50) fun b51 =>
(b51 = true → (K (.int .i64 1) H46)) ∧
(b51 = false → (bindP (aload H46 (some 8) v1) fun v52 =>
bindP (nilO a0) fun v53 =>
bindP (faddrO 4 v53) fun v54 =>
bindP (astore lim H46 8 v54 v52) fun H55 =>
bindP (nilO a0) fun v56 =>
bindP (faddrO 3 v56) fun v57 =>
bindP (aload H55 none v57) fun v58 =>
bindP (faddrO 0 v1) fun v59 =>
bindP (aload H55 none v59) fun v60 =>
bind2 (R lim (.fn 98) [v58, v60] H55) fun v61 H62 =>
K v61 H62))))))))
def F46_Lp (R : Caller) (lim n : Nat) (K : AVal → Heap → Prop) : Nat → Tm → Heap → Prop
  | _, _, _ => False
theorem F46_eq (R : Caller) (lim n : Nat) (K : AVal → Heap → Prop) (a0 a1 : AVal) (H : Heap) : F46 R lim n K a0 a1 H = execI R lim n 73 (F46_Lp R lim n K) f46.body (argT [a0, a1]) H (retW [(.tmp 4)] K) := by kernel_rfl
theorem F46_ob (R : Caller) (lim n : Nat) (K : AVal → Heap → Prop) : Oblig R lim n 73 (F46_Lp R lim n K) f46.body (retW [(.tmp 4)] K) := (oblig_nl (by kernel_rfl))
theorem F46_run {ap : FuncId → Option AFn} (hf : ap 46 = some (.code f46)) {n lim : Nat} {K : AVal → Heap → Prop} {a0 a1 : AVal} {H : Heap} (h : F46 (Ahs.runT ap n) lim n K a0 a1 H) : ∃ v H', Ahs.runT ap (n + 1) lim (.fn 46) [a0, a1] H = some (v, H') ∧ K v H' := by
  rw [F46_eq] at h
  exact run_of_W hf (by kernel_rfl) (by kernel_rfl) (execI_sound f46.body _ _ _ _ (F46_ob _ _ _ K) (fun _ _ _ h => h) h)
def F47 (R : Caller) (lim n : Nat) (K : AVal → Heap → Prop) (a0 : AVal) (H : Heap) : Prop :=
bind2 (R lim (.fn 53) [a0] H) fun v1 H2 =>
bindP (boolOf v1) fun b3 =>
(b3 = true → (K (.int .u8 0) H2)) ∧
(b3 = false → (bindP (nilO a0) fun v4 =>
bindP (faddrO 14 v4) fun v5 =>
bindP (aload H2 none v5) fun v6 =>
K v6 H2))
def F47_Lp (R : Caller) (lim n : Nat) (K : AVal → Heap → Prop) : Nat → Tm → Heap → Prop
  | _, _, _ => False
theorem F47_eq (R : Caller) (lim n : Nat) (K : AVal → Heap → Prop) (a0 : AVal) (H : Heap) : F47 R lim n K a0 H = execI R lim n 9 (F47_Lp R lim n K) f47.body (argT [a0]) H (retW [(.tmp 2)] K) := by kernel_rfl
theorem F47_ob (R : Caller) (lim n : Nat) (K : AVal → Heap → Prop) : Oblig R lim n 9 (F47_Lp R lim n K) f47.body (retW [(.tmp 2)] K) := (oblig_nl (by kernel_rfl))
theorem F47_run {ap : FuncId → Option AFn} (hf : ap 47 = some (.code f47)) {n lim : Nat} {K : AVal → Heap → Prop} {a0 : AVal} {H : Heap} (h : F47 (Ahs.runT ap n) lim n K a0 H) : ∃ v H', Ahs.runT ap (n + 1) lim (.fn 47) [a0] H = some (v, H') ∧ K v H' := by
  rw [F47_eq] at h
  exact run_of_W hf (by kernel_rfl) (by kernel_rfl) (execI_sound f47.body _ _ _ _ (F47_ob _ _ _ K) (fun _ _ _ h => h) h)
def F48 (R : Caller) (lim n : Nat) (K : AVal → Heap → Prop) (a0 a1 : AVal) (H : Heap) : Prop :=
bind2 (R lim (.fn 53) [a0] H) fun v1 H2 =>
bindP (boolOf v1) fun b3 =>
(b3 = true → (K (.int .u8 0) H2)) ∧
(b3 = false → (bindP (nilO a0) fun v4 =>
bindP (faddrO 3 v4) fun v5 =>
bindP (aload H2 none v5) fun v6 =>
bind2 (R lim (.fn 97) [v6, a1] H2) fun v7 H8 =>
K v7 H8))
def F48_Lp (R : Caller) (lim n : Nat) (K : AVal → Heap → Prop) : Nat → Tm → Heap → Prop
  | _, _, _ => False
theorem F48_eq (R : Caller) (lim n : Nat) (K : AVal → Heap → Prop) (a0 a1 : AVal) (H : Heap) : F48 R lim n K a0 a1 H = execI R lim n 13 (F48_Lp R lim n K) f48.body (argT [a0, a1]) H (retW [(.tmp 4)] K) := by kernel_rfl
theorem F48_ob (R : Caller) (lim n : Nat) (K : AVal → Heap → Prop) : Oblig R lim n 13 (F48_Lp R lim n K) f48.body (retW [(.tmp 4)] K) := (oblig_nl (by kernel_rfl))
theorem F48_run {ap : FuncId → Option AFn} (hf : ap 48 = some (.code f48)) {n lim : Nat} {K : AVal → Heap → Prop} {a0 a1 : AVal} {H : Heap} (h : F48 (Ahs.runT ap n) lim n K a0 a1 H) : ∃ v H', Ahs.runT ap (n + 1) lim (.fn 48) [a0, a1] H = some (v, H') ∧ K v H' := by
  rw [F48_eq] at h
  exact run_of_W hf (by kernel_rfl) (by kernel_rfl) (execI_sound f48.body _ _ _ _ (F48_ob _ _ _ K) (fun _ _ _ h => h) h)
def F49 (R : Caller) (lim n : Nat) (K : AVal → Heap → Prop) (a0 a1 : AVal) (H : Heap) : Prop :=
bind2 (R lim (.fn 13) [a0] H) fun v1 H2 =>
bindP (aun .not v1) fun v3 =>
bindP (boolOf v3) fun b4 =>
(b4 = true → (K (.int .u64 0) H2)) ∧
(b4 = false → (bindP (nilO a0) fun v5 =>
bindP (faddrO 18 v5) fun v6 =>
bindP (aload H2 none v6) fun v7 =>
bindP (alookup H2 false [(.int .u8)] (.agg [(.int .u64 0), (.int .u64 0), (.int .u64 0), (.int .u64 0), (.int .u8 0)]) false v7 a1) fun v8 =>
bindP (fieldO 0 none v8) fun v9 =>
K v9 H2))
def F49_Lp (R : Caller) (lim n : Nat) (K : AVal → Heap → Prop) : Nat → Tm → Heap → Prop
  | _, _, _ => False
theorem F49_eq (R : Caller) (lim n : Nat) (K : AVal → Heap → Prop) (a0 a1 : AVal) (H : Heap) : F49 R lim n K a0 a1 H = execI R lim n 15 (F49_Lp R lim n K) f49.body (argT [a0, a1]) H (retW [(.tmp 4)] K) := by kernel_rfl
theorem F49_ob (R : Caller) (lim n : Nat) (K : AVal → Heap → Prop) : Oblig R lim n 15 (F49_Lp R lim n K) f49.body (retW [(.tmp 4)] K) := (oblig_nl (by kernel_rfl))
theorem F49_run {ap : FuncId → Option AFn} (hf : ap 49 = some (.code f49)) {n lim : Nat} {K : AVal → Heap → Prop} {a0 a1 : AVal} {H : Heap} (h : F49 (Ahs.runT ap n) lim n K a0 a1 H) : ∃ v H', Ahs.runT ap (n + 1) lim (.fn 49) [a0, a1] H = some (v, H') ∧ K v H' := by
  rw [F49_eq] at h
  exact run_of_W hf (by kernel_rfl) (by kernel_rfl) (execI_sound f49.body _ _ _ _ (F49_ob _ _ _ K) (fun _ _ _ h => h) h)
def F53 (R : Caller) (lim n : Nat) (K : AVal → Heap → Prop) (a0 : AVal) (H : Heap) : Prop :=
bindP (eqvO false .ptr a0 (.ptr none)) fun v1 =>
bindP (gd (some (v1, false)) (some a0)) fun v2 =>
bindP (gd (some (v1, false)) (nilO v2)) fun v3 =>
bindP (gd (some (v1, false)) (faddrO 3 v3)) fun v4 =>
bindP (gd (some (v1, false)) (aload H none v4)) fun v5 =>
bindP (gd (some (v1, false)) (eqvO false .ptr v5 (.ptr none))) fun v6 =>
bindP (pickO v1 (.bool true) v6) fun v7 =>
K v7 H
def F53_Lp (R : Caller) (lim n : Nat) (K : AVal → Heap → Prop) : Nat → Tm → Heap → Prop
  | _, _, _ => False
theorem F53_eq (R : Caller) (lim n : Nat) (K : AVal → Heap → Prop) (a0 : AVal) (H : Heap) : F53 R lim n K a0 H = execI R lim n 12 (F53_Lp R lim n K) f53.body (argT [a0]) H (retW [(.tmp 2)] K) := by kernel_rfl
theorem F53_ob (R : Caller) (lim n : Nat) (K : AVal → Heap → Prop) : Oblig R lim n 12 (F53_Lp R lim n K) f53.body (retW [(.tmp 2)] K) := (oblig_nl (by kernel_rfl))
theorem F53_run {ap : FuncId → Option AFn} (hf : ap 53 = some (.code f53)) {n lim : Nat} {K : AVal → Heap → Prop} {a0 : AVal} {H : Heap} (h : F53 (Ahs.runT ap n) lim n K a0 H) : ∃ v H', Ahs.runT ap (n + 1) lim (.fn 53) [a0] H = some (v, H') ∧ K v H' := by
  rw [F53_eq] at h
  exact run_of_W hf (by kernel_rfl) (by kernel_rfl) (execI_sound f53.body _ _ _ _ (F53_ob _ _ _ K) (fun _ _ _ h => h) h)
def F75_j0 (R : Caller) (lim n : Nat) (K : AVal → Heap → Prop) (H : Heap) : Prop :=
K (.bool false) H
def F75_s0 (R : Caller) (lim n : Nat) (K : AVal → Heap → Prop) (rec0 : AVal → AVal → Heap → Prop) (t0 t3 : AVal) (H : Heap) : Prop :=
bindP (alen false t0) fun v14 =>
bindP (abin .lss t3 v14) fun v15 =>
bindP (boolOf v15) fun b16 =>
(b16 = true → (bindP (aindexAddr none 13 t0 t3) fun v17 =>
bindP (faddrO 12 v17) fun v18 =>
bindP (aload H none v18) fun v19 =>
bindP (alen true v19) fun v20 =>
bindP (abin .gtr v20 (.int .i64 100)) fun v21 =>
bindP (boolOf v21) fun b22 =>
(b22 = true → (K (.bool true) H)) ∧
(b22 = false → (bindP (abin .add t3 (.int .i64 1)) fun v23 =>
rec0 t0 v23 H)))) ∧
(b16 = false → (F75_j0 R lim n K H))
def F75_l0 (R : Caller) (lim n : Nat) (K : AVal → Heap → Prop) : Nat → AVal → AVal → Heap → Prop
  | 0, _, _, _ => False
  | m + 1, t0, t3, H => F75_s0 R lim n K (F75_l0 R lim n K m) t0 t3 H
def F75 (R : Caller) (lim n : Nat) (K : AVal → Heap → Prop) (a0 : AVal) (H : Heap) : Prop :=
bindP (alen false a0) fun v1 =>
bindP (abin .gtr v1 (.int .i64 40)) fun v2 =>
bindP (boolOf v2) fun b3 =>
(b3 = true → (K (.bool true) H)) ∧
(b3 = false → (F75_l0 R lim n K n a0 (.int .i64 0) H))
def F75_Lp (R : Caller) (lim n : Nat) (K : AVal → Heap → Prop) : Nat → Tm → Heap → Prop
  | 0, T, H => F75_l0 R lim n K n (T 0) (T 3) H
  | _, _, _ => False
def F75_Lp0 (R : Caller) (lim n : Nat) (K : AVal → Heap → Prop) (rec0 : AVal → AVal → Heap → Prop) : Nat → Tm → Heap → Prop
  | _, _, _ => False
def F75_k0 (R : Caller) (lim n : Nat) (K : AVal → Heap → Prop) (rec0 : AVal → AVal → Heap → Prop) : Kt := fun ex T H => match ex with
  | .norm => rec0 (T 0) (T 3) H
  | ex => (kBlk 0 (kSeq (execI R lim n 20 (F75_Lp R lim n K) f75_p1) (retW [(.tmp 2)] K))) ex T H
theorem F75_s0_eq (R : Caller) (lim n : Nat) (K : AVal → Heap → Prop) (rec0 : AVal → AVal → Heap → Prop) (T : Tm) (H : Heap) : F75_s0 R lim n K rec0 (T 0) (T 3) H = execI R lim n 20 (F75_Lp0 R lim n K rec0) f75_p0 T H (F75_k0 R lim n K rec0) := by kernel_rfl
theorem F75_l0_ok (R : Caller) (lim n : Nat) (K : AVal → Heap → Prop) {kw : Kt} (hk : ∀ ex T H, (kBlk 0 (kSeq (execI R lim n 20 (F75_Lp R lim n K) f75_p1) (retW [(.tmp 2)] K))) ex T H → kw ex T H) : ∀ (m : Nat) (T : Tm) (H : Heap), F75_l0 R lim n K m (T 0) (T 3) H → loopW (execW R lim n 20 f75_p0) m T H kw
  | 0, _, _, h => False.elim h
  | m + 1, T, H, h => by
    have hb : ∀ ex T H, F75_k0 R lim n K (F75_l0 R lim n K m) ex T H → (fun ex T H => match ex with | .norm => loopW (execW R lim n 20 f75_p0) m T H kw | ex => kw ex T H : Kt) ex T H := by
      intro ex T H h
      cases ex with
      | norm => exact F75_l0_ok R lim n K hk m T H h
      | exit i => exact hk _ _ _ h
      | ret => exact hk _ _ _ h
    have h' : F75_s0 R lim n K (F75_l0 R lim n K m) (T 0) (T 3) H := h
    rw [F75_s0_eq] at h'
    exact execI_sound f75_p0 T H _ _ (oblig_nl (by kernel_rfl)) hb h'
theorem F75_eq (R : Caller) (lim n : Nat) (K : AVal → Heap → Prop) (a0 : AVal) (H : Heap) : F75 R lim n K a0 H = execI R lim n 20 (F75_Lp R lim n K) f75.body (argT [a0]) H (retW [(.tmp 2)] K) := by kernel_rfl
theorem F75_ob (R : Caller) (lim n : Nat) (K : AVal → Heap → Prop) : Oblig R lim n 20 (F75_Lp R lim n K) f75.body (retW [(.tmp 2)] K) := ⟨(oblig_nl (by kernel_rfl)), ⟨(oblig_nl (by kernel_rfl)), ⟨⟨(oblig_nl (by kernel_rfl)), (fun T H h => F75_l0_ok R lim n K (kBlk_mono (kSeqI_sound (oblig_nl (by kernel_rfl)) (fun _ _ _ h => h))) _ T H h)⟩, (oblig_nl (by kernel_rfl))⟩⟩⟩
theorem F75_run {ap : FuncId → Option AFn} (hf : ap 75 = some (.code f75)) {n lim : Nat} {K : AVal → Heap → Prop} {a0 : AVal} {H : Heap} (h : F75 (Ahs.runT ap n) lim n K a0 H) : ∃ v H', Ahs.runT ap (n + 1) lim (.fn 75) [a0] H = some (v, H') ∧ K v H' := by
  rw [F75_eq] at h
  exact run_of_W hf (by kernel_rfl) (by kernel_rfl) (execI_sound f75.body _ _ _ _ (F75_ob _ _ _ K) (fun _ _ _ h => h) h)
def F76 (R : Caller) (lim n : Nat) (K : AVal → Heap → Prop) (a0 : AVal) (H : Heap) : Prop :=
bindP (abin .gtr a0 (.int .u64 1099511627776)) fun v1 =>
K v1 H
def F76_Lp (R : Caller) (lim n : Nat) (K : AVal → Heap → Prop) : Nat → Tm → Heap → Prop
  | _, _, _ => False
theorem F76_eq (R : Caller) (lim n : Nat) (K : AVal → Heap → Prop) (a0 : AVal) (H : Heap) : F76 R lim n K a0 H = execI R lim n 5 (F76_Lp R lim n K) f76.body (argT [a0]) H (retW [(.tmp 2)] K) := by kernel_rfl
theorem F76_ob (R : Caller) (lim n : Nat) (K : AVal → Heap → Prop) : Oblig R lim n 5 (F76_Lp R lim n K) f76.body (retW [(.tmp 2)] K) := (oblig_nl (by kernel_rfl))
theorem F76_run {ap : FuncId → Option AFn} (hf : ap 76 = some (.code f76)) {n lim : Nat} {K : AVal → Heap → Prop} {a0 : AVal} {H : Heap} (h : F76 (Ahs.runT ap n) lim n K a0 H) : ∃ v H', Ahs.runT ap (n + 1) lim (.fn 76) [a0] H = some (v, H') ∧ K v H' := by
  rw [F76_eq] at h
  exact run_of_W hf (by kernel_rfl) (by kernel_rfl) (execI_sound f76.body _ _ _ _ (F76_ob _ _ _ K) (fun _ _ _ h => h) h)
def F77_j0 (R : Caller) (lim n : Nat) (K : AVal → Heap → Prop) (t1 : AVal) (H : Heap) : Prop :=
bindP (faddrO 0 t1) fun v21 =>
bindP (aload H none v21) fun v22 =>
bind2 (R lim (.fn 76) [v22] H) fun v23 H24 =>
bindP (gd (some (v23, false)) (faddrO 1 t1)) fun v25 =>
bindP (gd (some (v23, false)) (aload H24 none v25)) fun v26 =>
bind2 (gd2 (some (v23, false)) H24 (R lim (.fn 76) [v26] H24)) fun v27 H28 =>
bindP (pickO v23 (.bool true) v27) fun v29 =>
K v29 H28
def F77_s0 (R : Caller) (lim n : Nat) (K : AVal → Heap → Prop) (rec0 : AVal → AVal → Heap → Prop) (t1 t3 : AVal) (H : Heap) : Prop :=
bindP (abin .lss t3 (.int .i64 5)) fun v30 =>
bindP (boolOf v30) fun b31 =>
(b31 = true → (bindP (faddrO 3 t1) fun v32 =>
bindP (aindexAddr (some 5) 1 v32 t3) fun v33 =>
bindP (aload H none v33) fun v34 =>
bindP (alen true v34) fun v35 =>
bindP (abin .gtr v35 (.int .i64 100)) fun v36 =>
bindP (boolOf v36) fun b37 =>
(b37 = true → (K (.bool true) H)) ∧
(b37 = false → (bindP (abin .add t3 (.int .i64 1)) fun v38 =>
rec0 t1 v38 H)))) ∧
(b31 = false → (F77_j0 R lim n K t1 H))
def F77_l0 (R : Caller) (lim n : Nat) (K : AVal → Heap → Prop) : Nat → AVal → AVal → Heap → Prop
  | 0, _, _, _ => False
  | m + 1, t1, t3, H => F77_s0 R lim n K (F77_l0 R lim n K m) t1 t3 H
def F77 (R : Caller) (lim n : Nat) (K : AVal → Heap → Prop) (a0 : AVal) (H : Heap) : Prop :=
bind2 (if (a0).cells.all (·.one) then some (.ptr (some (H.next, 0)), H.push (.cells (a0).cells)) else none) fun v1 H2 =>
F77_l0 R lim n K n v1 (.int .i64 0) H2
def F77_Lp (R : Caller) (lim n : Nat) (K : AVal → Heap → Prop) : Nat → Tm → Heap → Prop
  | 0, T, H => F77_l0 R lim n K n (T 1) (T 3) H
  | _, _, _ => False
def F77_Lp0 (R : Caller) (lim n : Nat) (K : AVal → Heap → Prop) (rec0 : AVal → AVal → Heap → Prop) : Nat → Tm → Heap → Prop
  | _, _, _ => False
def F77_k0 (R : Caller) (lim n : Nat) (K : AVal → Heap → Prop) (rec0 : AVal → AVal → Heap → Prop) : Kt := fun ex T H => match ex with
  | .norm => rec0 (T 1) (T 3) H
  | ex => (kBlk 0 (kSeq (execI R lim n 22 (F77_Lp R lim n K) f77_p1) (retW [(.tmp 2)] K))) ex T H
theorem F77_s0_eq (R : Caller) (lim n : Nat) (K : AVal → Heap → Prop) (rec0 : AVal → AVal → Heap → Prop) (T : Tm) (H : Heap) : F77_s0 R lim n K rec0 (T 1) (T 3) H = execI R lim n 22 (F77_Lp0 R lim n K rec0) f77_p0 T H (F77_k0 R lim n K rec0) := by kernel_rfl
theorem F77_l0_ok (R : Caller) (lim n : Nat) (K : AVal → Heap → Prop) {kw : Kt} (hk : ∀ ex T H, (kBlk 0 (kSeq (execI R lim n 22 (F77_Lp R lim n K) f77_p1) (retW [(.tmp 2)] K))) ex T H → kw ex T H) : ∀ (m : Nat) (T : Tm) (H : Heap), F77_l0 R lim n K m (T 1) (T 3) H → loopW (execW R lim n 22 f77_p0) m T H kw
  | 0, _, _, h => False.elim h
  | m + 1, T, H, h => by
    have hb : ∀ ex T H, F77_k0 R lim n K (F77_l0 R lim n K m) ex T H → (fun ex T H => match ex with | .norm => loopW (execW R lim n 22 f77_p0) m T H kw | ex => kw ex T H : Kt) ex T H := by
      intro ex T H h
      cases ex with
      | norm => exact F77_l0_ok R lim n K hk m T H h
      | exit i => exact hk _ _ _ h
      | ret => exact hk _ _ _ h
    have h' : F77_s0 R lim n K (F77_l0 R lim n K m) (T 1) (T 3) H := h
    rw [F77_s0_eq] at h'
    exact execI_sound f77_p0 T H _ _ (oblig_nl (by kernel_rfl)) hb h'
theorem F77_eq (R : Caller) (lim n : Nat) (K : AVal → Heap → Prop) (a0 : AVal) (H : Heap) : F77 R lim n K a0 H = execI R lim n 22 (F77_Lp R lim n K) f77.body (argT [a0]) H (retW [(.tmp 2)] K) := by kernel_rfl
theorem F77_ob (R : Caller) (lim n : Nat) (K : AVal → Heap → Prop) : Oblig R lim n 22 (F77_Lp R lim n K) f77.body (retW [(.tmp 2)] K) := ⟨(oblig_nl (by kernel_rfl)), ⟨⟨(oblig_nl (by kernel_rfl)), (fun T H h => F77_l0_ok R lim n K (kBlk_mono (kSeqI_sound (oblig_nl (by kernel_rfl)) (fun _ _ _ h => h))) _ T H h)⟩, (oblig_nl (by kernel_rfl))⟩⟩
theorem F77_run {ap : FuncId → Option AFn} (hf : ap 77 = some (.code f77)) {n lim : Nat} {K : AVal → Heap → Prop} {a0 : AVal} {H : Heap} (h : F77 (Ahs.runT ap n) lim n K a0 H) : ∃ v H', Ahs.runT ap (n + 1) lim (.fn 77) [a0] H = some (v, H') ∧ K v H' := by
  rw [F77_eq] at h
  exact run_of_W hf (by kernel_rfl) (by kernel_rfl) (execI_sound f77.body _ _ _ _ (F77_ob _ _ _ K) (fun _ _ _ h => h) h)
end Go.Proofs.YtnlimogbokkfpaaGreat.rnob
