/-
  The program's functions as plain ones: the table.
-/
import Derived.Test.YtenigphjddnknaaGreatDoorSh0
import Derived.Test.YtenigphjddnknaaGreatDoorSh1
namespace Go.Proofs.YtenigphjddnknaaGreatDoor
open Go Go.Eva Go.Fv Go.Fw
noncomputable def r0_ : N16 SF := .mk .bad .bad .bad .bad .bad .bad s6 s7 .bad .bad s10 .bad s12 s13 s14 s15
theorem r0ok : RowOK Tryz.prog 8 0 r0_ := fall (.inl rfl) (.inl rfl) (.inl rfl) (.inl rfl) (.inl rfl) (.inl rfl) (.inr ⟨_, _, _, e6⟩) (.inr ⟨_, _, _, e7⟩) (.inl rfl) (.inl rfl) (.inr ⟨_, _, _, e10⟩) (.inl rfl) (.inr ⟨_, _, _, e12⟩) (.inr ⟨_, _, _, e13⟩) (.inr ⟨_, _, _, e14⟩) (.inr ⟨_, _, _, e15⟩)
noncomputable def r1_ : N16 SF := .mk .bad .bad .bad s19 s20 .bad .bad s23 .bad .bad s26 .bad .bad .bad .bad s31
theorem r1ok : RowOK Tryz.prog 8 1 r1_ := fall (.inl rfl) (.inl rfl) (.inl rfl) (.inr ⟨_, _, _, e19⟩) (.inr ⟨_, _, _, e20⟩) (.inl rfl) (.inl rfl) (.inr ⟨_, _, _, e23⟩) (.inl rfl) (.inl rfl) (.inr ⟨_, _, _, e26⟩) (.inl rfl) (.inl rfl) (.inl rfl) (.inl rfl) (.inr ⟨_, _, _, e31⟩)
noncomputable def r2_ : N16 SF := .mk .bad .bad .bad .bad .bad s37 .bad .bad s40 .bad s42 s43 s44 s45 .bad .bad
theorem r2ok : RowOK Tryz.prog 8 2 r2_ := fall (.inl rfl) (.inl rfl) (.inl rfl) (.inl rfl) (.inl rfl) (.inr ⟨_, _, _, e37⟩) (.inl rfl) (.inl rfl) (.inr ⟨_, _, _, e40⟩) (.inl rfl) (.inr ⟨_, _, _, e42⟩) (.inr ⟨_, _, _, e43⟩) (.inr ⟨_, _, _, e44⟩) (.inr ⟨_, _, _, e45⟩) (.inl rfl) (.inl rfl)
noncomputable def r3_ : N16 SF := .mk s48 s49 .bad .bad s52 .bad .bad .bad .bad .bad s58 .bad .bad .bad .bad .bad
theorem r3ok : RowOK Tryz.prog 8 3 r3_ := fall (.inr ⟨_, _, _, e48⟩) (.inr ⟨_, _, _, e49⟩) (.inl rfl) (.inl rfl) (.inr ⟨_, _, _, e52⟩) (.inl rfl) (.inl rfl) (.inl rfl) (.inl rfl) (.inl rfl) (.inr ⟨_, _, _, e58⟩) (.inl rfl) (.inl rfl) (.inl rfl) (.inl rfl) (.inl rfl)
noncomputable def r4_ : N16 SF := .mk s64 s65 .bad s67 s68 s69 s70 s71 s72 .bad .bad .bad s76 s77 s78 .bad
theorem r4ok : RowOK Tryz.prog 8 4 r4_ := fall (.inr ⟨_, _, _, e64⟩) (.inr ⟨_, _, _, e65⟩) (.inl rfl) (.inr ⟨_, _, _, e67⟩) (.inr ⟨_, _, _, e68⟩) (.inr ⟨_, _, _, e69⟩) (.inr ⟨_, _, _, e70⟩) (.inr ⟨_, _, _, e71⟩) (.inr ⟨_, _, _, e72⟩) (.inl rfl) (.inl rfl) (.inl rfl) (.inr ⟨_, _, _, e76⟩) (.inr ⟨_, _, _, e77⟩) (.inr ⟨_, _, _, e78⟩) (.inl rfl)
noncomputable def r5_ : N16 SF := .mk .bad .bad s82 .bad .bad .bad .bad .bad s88 .bad s90 .bad .bad .bad .bad .bad
theorem r5ok : RowOK Tryz.prog 8 5 r5_ := fall (.inl rfl) (.inl rfl) (.inr ⟨_, _, _, e82⟩) (.inl rfl) (.inl rfl) (.inl rfl) (.inl rfl) (.inl rfl) (.inr ⟨_, _, _, e88⟩) (.inl rfl) (.inr ⟨_, _, _, e90⟩) (.inl rfl) (.inl rfl) (.inl rfl) (.inl rfl) (.inl rfl)
noncomputable def r6_ : N16 SF := .mk .bad .bad s98 s99 .bad s101 s102 s103 .bad .bad .bad .bad .bad s109 s110 s111
theorem r6ok : RowOK Tryz.prog 8 6 r6_ := fall (.inl rfl) (.inl rfl) (.inr ⟨_, _, _, e98⟩) (.inr ⟨_, _, _, e99⟩) (.inl rfl) (.inr ⟨_, _, _, e101⟩) (.inr ⟨_, _, _, e102⟩) (.inr ⟨_, _, _, e103⟩) (.inl rfl) (.inl rfl) (.inl rfl) (.inl rfl) (.inl rfl) (.inr ⟨_, _, _, e109⟩) (.inr ⟨_, _, _, e110⟩) (.inr ⟨_, _, _, e111⟩)
noncomputable def r7_ : N16 SF := .mk s112 s113 .bad .bad .bad s117 .bad .bad s120 .bad s122 .bad .bad s125 .bad .bad
theorem r7ok : RowOK Tryz.prog 8 7 r7_ := fall (.inr ⟨_, _, _, e112⟩) (.inr ⟨_, _, _, e113⟩) (.inl rfl) (.inl rfl) (.inl rfl) (.inr ⟨_, _, _, e117⟩) (.inl rfl) (.inl rfl) (.inr ⟨_, _, _, e120⟩) (.inl rfl) (.inr ⟨_, _, _, e122⟩) (.inl rfl) (.inl rfl) (.inr ⟨_, _, _, e125⟩) (.inl rfl) (.inl rfl)
noncomputable def r8_ : N16 SF := .mk .bad .bad .bad .bad .bad .bad .bad .bad .bad s137 .bad .bad .bad .bad .bad .bad
theorem r8ok : RowOK Tryz.prog 8 8 r8_ := fall (.inl rfl) (.inl rfl) (.inl rfl) (.inl rfl) (.inl rfl) (.inl rfl) (.inl rfl) (.inl rfl) (.inl rfl) (.inr ⟨_, _, _, e137⟩) (.inl rfl) (.inl rfl) (.inl rfl) (.inl rfl) (.inl rfl) (.inl rfl)
noncomputable def r9_ : N16 SF := .mk .bad .bad .bad .bad .bad .bad .bad .bad s152 s153 s154 s155 s156 s157 .bad .bad
theorem r9ok : RowOK Tryz.prog 8 9 r9_ := fall (.inl rfl) (.inl rfl) (.inl rfl) (.inl rfl) (.inl rfl) (.inl rfl) (.inl rfl) (.inl rfl) (.inr ⟨_, _, _, e152⟩) (.inr ⟨_, _, _, e153⟩) (.inr ⟨_, _, _, e154⟩) (.inr ⟨_, _, _, e155⟩) (.inr ⟨_, _, _, e156⟩) (.inr ⟨_, _, _, e157⟩) (.inl rfl) (.inl rfl)
noncomputable def r10_ : N16 SF := .mk s160 .bad .bad .bad s164 s165 s166 s167 s168 s169 .bad .bad .bad .bad .bad .bad
theorem r10ok : RowOK Tryz.prog 8 10 r10_ := fall (.inr ⟨_, _, _, e160⟩) (.inl rfl) (.inl rfl) (.inl rfl) (.inr ⟨_, _, _, e164⟩) (.inr ⟨_, _, _, e165⟩) (.inr ⟨_, _, _, e166⟩) (.inr ⟨_, _, _, e167⟩) (.inr ⟨_, _, _, e168⟩) (.inr ⟨_, _, _, e169⟩) (.inl rfl) (.inl rfl) (.inl rfl) (.inl rfl) (.inl rfl) (.inl rfl)
noncomputable def r11_ : N16 SF := .mk s176 s177 .bad s179 s180 s181 .bad .bad s184 s185 .bad .bad .bad .bad .bad .bad
theorem r11ok : RowOK Tryz.prog 8 11 r11_ := fall (.inr ⟨_, _, _, e176⟩) (.inr ⟨_, _, _, e177⟩) (.inl rfl) (.inr ⟨_, _, _, e179⟩) (.inr ⟨_, _, _, e180⟩) (.inr ⟨_, _, _, e181⟩) (.inl rfl) (.inl rfl) (.inr ⟨_, _, _, e184⟩) (.inr ⟨_, _, _, e185⟩) (.inl rfl) (.inl rfl) (.inl rfl) (.inl rfl) (.inl rfl) (.inl rfl)
noncomputable def r12_ : N16 SF := .mk .bad .bad .bad .bad .bad .bad s198 .bad .bad .bad .bad .bad .bad .bad .bad .bad
theorem r12ok : RowOK Tryz.prog 8 12 r12_ := fall (.inl rfl) (.inl rfl) (.inl rfl) (.inl rfl) (.inl rfl) (.inl rfl) (.inr ⟨_, _, _, e198⟩) (.inl rfl) (.inl rfl) (.inl rfl) (.inl rfl) (.inl rfl) (.inl rfl) (.inl rfl) (.inl rfl) (.inl rfl)
noncomputable def r13_ : N16 SF := .mk .bad .bad .bad .bad s212 s213 s214 s215 s216 s217 .bad s219 s220 .bad .bad .bad
theorem r13ok : RowOK Tryz.prog 8 13 r13_ := fall (.inl rfl) (.inl rfl) (.inl rfl) (.inl rfl) (.inr ⟨_, _, _, e212⟩) (.inr ⟨_, _, _, e213⟩) (.inr ⟨_, _, _, e214⟩) (.inr ⟨_, _, _, e215⟩) (.inr ⟨_, _, _, e216⟩) (.inr ⟨_, _, _, e217⟩) (.inl rfl) (.inr ⟨_, _, _, e219⟩) (.inr ⟨_, _, _, e220⟩) (.inl rfl) (.inl rfl) (.inl rfl)
noncomputable def r14_ : N16 SF := .mk .bad .bad .bad .bad .bad .bad .bad s231 .bad .bad .bad .bad s236 s237 s238 s239
theorem r14ok : RowOK Tryz.prog 8 14 r14_ := fall (.inl rfl) (.inl rfl) (.inl rfl) (.inl rfl) (.inl rfl) (.inl rfl) (.inl rfl) (.inr ⟨_, _, _, e231⟩) (.inl rfl) (.inl rfl) (.inl rfl) (.inl rfl) (.inr ⟨_, _, _, e236⟩) (.inr ⟨_, _, _, e237⟩) (.inr ⟨_, _, _, e238⟩) (.inr ⟨_, _, _, e239⟩)
noncomputable def r15_ : N16 SF := .mk s240 .bad s242 s243 .bad .bad .bad .bad .bad .bad .bad .bad s252 .bad .bad .bad
theorem r15ok : RowOK Tryz.prog 8 15 r15_ := fall (.inr ⟨_, _, _, e240⟩) (.inl rfl) (.inr ⟨_, _, _, e242⟩) (.inr ⟨_, _, _, e243⟩) (.inl rfl) (.inl rfl) (.inl rfl) (.inl rfl) (.inl rfl) (.inl rfl) (.inl rfl) (.inl rfl) (.inr ⟨_, _, _, e252⟩) (.inl rfl) (.inl rfl) (.inl rfl)
noncomputable def r16_ : N16 SF := .mk .bad .bad s258 .bad .bad .bad .bad .bad .bad .bad s266 s267 .bad .bad .bad .bad
theorem r16ok : RowOK Tryz.prog 8 16 r16_ := fall (.inl rfl) (.inl rfl) (.inr ⟨_, _, _, e258⟩) (.inl rfl) (.inl rfl) (.inl rfl) (.inl rfl) (.inl rfl) (.inl rfl) (.inl rfl) (.inr ⟨_, _, _, e266⟩) (.inr ⟨_, _, _, e267⟩) (.inl rfl) (.inl rfl) (.inl rfl) (.inl rfl)
noncomputable def r17_ : N16 SF := .mk .bad s273 .bad s275 .bad .bad .bad .bad .bad .bad .bad .bad .bad s285 .bad s287
theorem r17ok : RowOK Tryz.prog 8 17 r17_ := fall (.inl rfl) (.inr ⟨_, _, _, e273⟩) (.inl rfl) (.inr ⟨_, _, _, e275⟩) (.inl rfl) (.inl rfl) (.inl rfl) (.inl rfl) (.inl rfl) (.inl rfl) (.inl rfl) (.inl rfl) (.inl rfl) (.inr ⟨_, _, _, e285⟩) (.inl rfl) (.inr ⟨_, _, _, e287⟩)
noncomputable def r18_ : N16 SF := .mk .bad .bad s290 .bad .bad .bad .bad .bad .bad .bad .bad s299 s300 s301 s302 s303
theorem r18ok : RowOK Tryz.prog 8 18 r18_ := fall (.inl rfl) (.inl rfl) (.inr ⟨_, _, _, e290⟩) (.inl rfl) (.inl rfl) (.inl rfl) (.inl rfl) (.inl rfl) (.inl rfl) (.inl rfl) (.inl rfl) (.inr ⟨_, _, _, e299⟩) (.inr ⟨_, _, _, e300⟩) (.inr ⟨_, _, _, e301⟩) (.inr ⟨_, _, _, e302⟩) (.inr ⟨_, _, _, e303⟩)
noncomputable def r19_ : N16 SF := .mk s304 s305 s306 s307 s308 s309 s310 s311 s312 s313 .bad .bad .bad .bad .bad .bad
theorem r19ok : RowOK Tryz.prog 8 19 r19_ := fall (.inr ⟨_, _, _, e304⟩) (.inr ⟨_, _, _, e305⟩) (.inr ⟨_, _, _, e306⟩) (.inr ⟨_, _, _, e307⟩) (.inr ⟨_, _, _, e308⟩) (.inr ⟨_, _, _, e309⟩) (.inr ⟨_, _, _, e310⟩) (.inr ⟨_, _, _, e311⟩) (.inr ⟨_, _, _, e312⟩) (.inr ⟨_, _, _, e313⟩) (.inl rfl) (.inl rfl) (.inl rfl) (.inl rfl) (.inl rfl) (.inl rfl)
noncomputable def r20_ : N16 SF := .mk s320 .bad .bad .bad .bad s325 s326 .bad s328 s329 s330 s331 s332 s333 .bad .bad
theorem r20ok : RowOK Tryz.prog 8 20 r20_ := fall (.inr ⟨_, _, _, e320⟩) (.inl rfl) (.inl rfl) (.inl rfl) (.inl rfl) (.inr ⟨_, _, _, e325⟩) (.inr ⟨_, _, _, e326⟩) (.inl rfl) (.inr ⟨_, _, _, e328⟩) (.inr ⟨_, _, _, e329⟩) (.inr ⟨_, _, _, e330⟩) (.inr ⟨_, _, _, e331⟩) (.inr ⟨_, _, _, e332⟩) (.inr ⟨_, _, _, e333⟩) (.inl rfl) (.inl rfl)
noncomputable def r21_ : N16 SF := .mk .bad .bad .bad s339 s340 s341 s342 .bad .bad .bad .bad .bad .bad .bad .bad .bad
theorem r21ok : RowOK Tryz.prog 8 21 r21_ := fall (.inl rfl) (.inl rfl) (.inl rfl) (.inr ⟨_, _, _, e339⟩) (.inr ⟨_, _, _, e340⟩) (.inr ⟨_, _, _, e341⟩) (.inr ⟨_, _, _, e342⟩) (.inl rfl) (.inl rfl) (.inl rfl) (.inl rfl) (.inl rfl) (.inl rfl) (.inl rfl) (.inl rfl) (.inl rfl)
noncomputable def r24_ : N16 SF := .mk .bad s385 .bad .bad .bad .bad .bad .bad .bad .bad .bad .bad .bad .bad .bad .bad
theorem r24ok : RowOK Tryz.prog 8 24 r24_ := fall (.inl rfl) (.inr ⟨_, _, _, e385⟩) (.inl rfl) (.inl rfl) (.inl rfl) (.inl rfl) (.inl rfl) (.inl rfl) (.inl rfl) (.inl rfl) (.inl rfl) (.inl rfl) (.inl rfl) (.inl rfl) (.inl rfl) (.inl rfl)
noncomputable def b0_ : N16 (N16 SF) := .mk r0_ r1_ r2_ r3_ r4_ r5_ r6_ r7_ r8_ r9_ r10_ r11_ r12_ r13_ r14_ r15_
theorem b0ok : BlkOK Tryz.prog 8 0 b0_ := fall r0ok r1ok r2ok r3ok r4ok r5ok r6ok r7ok r8ok r9ok r10ok r11ok r12ok r13ok r14ok r15ok
noncomputable def b1_ : N16 (N16 SF) := .mk r16_ r17_ r18_ r19_ r20_ r21_ noRow noRow r24_ noRow noRow noRow noRow noRow noRow noRow
theorem b1ok : BlkOK Tryz.prog 8 1 b1_ := fall r16ok r17ok r18ok r19ok r20ok r21ok noRow_ok noRow_ok r24ok noRow_ok noRow_ok noRow_ok noRow_ok noRow_ok noRow_ok noRow_ok
noncomputable def tab : Tab := .mk b0_ b1_ noBlk noBlk noBlk noBlk noBlk noBlk noBlk noBlk noBlk noBlk noBlk noBlk noBlk noBlk
theorem tabOK : TfOK Tryz.prog 8 (look3 tab) := tab_ok (fall b0ok b1ok noBlk_ok noBlk_ok noBlk_ok noBlk_ok noBlk_ok noBlk_ok noBlk_ok noBlk_ok noBlk_ok noBlk_ok noBlk_ok noBlk_ok noBlk_ok noBlk_ok)
end Go.Proofs.YtenigphjddnknaaGreatDoor
