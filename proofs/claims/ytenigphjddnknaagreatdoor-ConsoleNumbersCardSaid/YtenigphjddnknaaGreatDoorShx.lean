/-
  The program's functions as plain ones: the table.
-/
import Derived.Test.YtenigphjddnknaaGreatDoorSh0
import Derived.Test.YtenigphjddnknaaGreatDoorSh1
import Derived.Test.YtenigphjddnknaaGreatDoorSh2
namespace Go.Proofs.YtenigphjddnknaaGreatDoor
open Go Go.Eva Go.Fv Go.Fw
noncomputable def r0_ : N16 SF := .mk .bad .bad .bad s3 .bad .bad s6 s7 .bad .bad s10 .bad s12 s13 s14 s15
theorem r0ok : RowOK Tryz.prog 8 0 r0_ := fall (.inl rfl) (.inl rfl) (.inl rfl) (.inr ⟨_, _, _, e3⟩) (.inl rfl) (.inl rfl) (.inr ⟨_, _, _, e6⟩) (.inr ⟨_, _, _, e7⟩) (.inl rfl) (.inl rfl) (.inr ⟨_, _, _, e10⟩) (.inl rfl) (.inr ⟨_, _, _, e12⟩) (.inr ⟨_, _, _, e13⟩) (.inr ⟨_, _, _, e14⟩) (.inr ⟨_, _, _, e15⟩)
noncomputable def r1_ : N16 SF := .mk .bad .bad .bad s19 s20 .bad .bad s23 s24 s25 s26 .bad s28 .bad s30 s31
theorem r1ok : RowOK Tryz.prog 8 1 r1_ := fall (.inl rfl) (.inl rfl) (.inl rfl) (.inr ⟨_, _, _, e19⟩) (.inr ⟨_, _, _, e20⟩) (.inl rfl) (.inl rfl) (.inr ⟨_, _, _, e23⟩) (.inr ⟨_, _, _, e24⟩) (.inr ⟨_, _, _, e25⟩) (.inr ⟨_, _, _, e26⟩) (.inl rfl) (.inr ⟨_, _, _, e28⟩) (.inl rfl) (.inr ⟨_, _, _, e30⟩) (.inr ⟨_, _, _, e31⟩)
noncomputable def r2_ : N16 SF := .mk s32 s33 s34 s35 s36 s37 .bad .bad s40 .bad s42 s43 s44 s45 .bad .bad
theorem r2ok : RowOK Tryz.prog 8 2 r2_ := fall (.inr ⟨_, _, _, e32⟩) (.inr ⟨_, _, _, e33⟩) (.inr ⟨_, _, _, e34⟩) (.inr ⟨_, _, _, e35⟩) (.inr ⟨_, _, _, e36⟩) (.inr ⟨_, _, _, e37⟩) (.inl rfl) (.inl rfl) (.inr ⟨_, _, _, e40⟩) (.inl rfl) (.inr ⟨_, _, _, e42⟩) (.inr ⟨_, _, _, e43⟩) (.inr ⟨_, _, _, e44⟩) (.inr ⟨_, _, _, e45⟩) (.inl rfl) (.inl rfl)
noncomputable def r3_ : N16 SF := .mk s48 s49 s50 s51 s52 s53 s54 s55 s56 s57 s58 .bad .bad .bad .bad .bad
theorem r3ok : RowOK Tryz.prog 8 3 r3_ := fall (.inr ⟨_, _, _, e48⟩) (.inr ⟨_, _, _, e49⟩) (.inr ⟨_, _, _, e50⟩) (.inr ⟨_, _, _, e51⟩) (.inr ⟨_, _, _, e52⟩) (.inr ⟨_, _, _, e53⟩) (.inr ⟨_, _, _, e54⟩) (.inr ⟨_, _, _, e55⟩) (.inr ⟨_, _, _, e56⟩) (.inr ⟨_, _, _, e57⟩) (.inr ⟨_, _, _, e58⟩) (.inl rfl) (.inl rfl) (.inl rfl) (.inl rfl) (.inl rfl)
noncomputable def r4_ : N16 SF := .mk s64 s65 s66 s67 s68 s69 s70 s71 s72 .bad .bad .bad s76 s77 s78 s79
theorem r4ok : RowOK Tryz.prog 8 4 r4_ := fall (.inr ⟨_, _, _, e64⟩) (.inr ⟨_, _, _, e65⟩) (.inr ⟨_, _, _, e66⟩) (.inr ⟨_, _, _, e67⟩) (.inr ⟨_, _, _, e68⟩) (.inr ⟨_, _, _, e69⟩) (.inr ⟨_, _, _, e70⟩) (.inr ⟨_, _, _, e71⟩) (.inr ⟨_, _, _, e72⟩) (.inl rfl) (.inl rfl) (.inl rfl) (.inr ⟨_, _, _, e76⟩) (.inr ⟨_, _, _, e77⟩) (.inr ⟨_, _, _, e78⟩) (.inr ⟨_, _, _, e79⟩)
noncomputable def r5_ : N16 SF := .mk s80 s81 s82 .bad .bad .bad .bad .bad s88 .bad s90 s91 s92 s93 s94 s95
theorem r5ok : RowOK Tryz.prog 8 5 r5_ := fall (.inr ⟨_, _, _, e80⟩) (.inr ⟨_, _, _, e81⟩) (.inr ⟨_, _, _, e82⟩) (.inl rfl) (.inl rfl) (.inl rfl) (.inl rfl) (.inl rfl) (.inr ⟨_, _, _, e88⟩) (.inl rfl) (.inr ⟨_, _, _, e90⟩) (.inr ⟨_, _, _, e91⟩) (.inr ⟨_, _, _, e92⟩) (.inr ⟨_, _, _, e93⟩) (.inr ⟨_, _, _, e94⟩) (.inr ⟨_, _, _, e95⟩)
noncomputable def r6_ : N16 SF := .mk s96 s97 s98 s99 s100 s101 s102 s103 .bad .bad .bad .bad .bad s109 s110 s111
theorem r6ok : RowOK Tryz.prog 8 6 r6_ := fall (.inr ⟨_, _, _, e96⟩) (.inr ⟨_, _, _, e97⟩) (.inr ⟨_, _, _, e98⟩) (.inr ⟨_, _, _, e99⟩) (.inr ⟨_, _, _, e100⟩) (.inr ⟨_, _, _, e101⟩) (.inr ⟨_, _, _, e102⟩) (.inr ⟨_, _, _, e103⟩) (.inl rfl) (.inl rfl) (.inl rfl) (.inl rfl) (.inl rfl) (.inr ⟨_, _, _, e109⟩) (.inr ⟨_, _, _, e110⟩) (.inr ⟨_, _, _, e111⟩)
noncomputable def r7_ : N16 SF := .mk s112 s113 s114 s115 s116 s117 .bad s119 s120 s121 s122 s123 s124 s125 .bad s127
theorem r7ok : RowOK Tryz.prog 8 7 r7_ := fall (.inr ⟨_, _, _, e112⟩) (.inr ⟨_, _, _, e113⟩) (.inr ⟨_, _, _, e114⟩) (.inr ⟨_, _, _, e115⟩) (.inr ⟨_, _, _, e116⟩) (.inr ⟨_, _, _, e117⟩) (.inl rfl) (.inr ⟨_, _, _, e119⟩) (.inr ⟨_, _, _, e120⟩) (.inr ⟨_, _, _, e121⟩) (.inr ⟨_, _, _, e122⟩) (.inr ⟨_, _, _, e123⟩) (.inr ⟨_, _, _, e124⟩) (.inr ⟨_, _, _, e125⟩) (.inl rfl) (.inr ⟨_, _, _, e127⟩)
noncomputable def r8_ : N16 SF := .mk .bad s129 s130 .bad .bad .bad .bad .bad .bad s137 .bad .bad s140 s141 .bad .bad
theorem r8ok : RowOK Tryz.prog 8 8 r8_ := fall (.inl rfl) (.inr ⟨_, _, _, e129⟩) (.inr ⟨_, _, _, e130⟩) (.inl rfl) (.inl rfl) (.inl rfl) (.inl rfl) (.inl rfl) (.inl rfl) (.inr ⟨_, _, _, e137⟩) (.inl rfl) (.inl rfl) (.inr ⟨_, _, _, e140⟩) (.inr ⟨_, _, _, e141⟩) (.inl rfl) (.inl rfl)
noncomputable def r9_ : N16 SF := .mk .bad .bad .bad .bad .bad s149 s150 .bad s152 s153 s154 s155 s156 s157 .bad .bad
theorem r9ok : RowOK Tryz.prog 8 9 r9_ := fall (.inl rfl) (.inl rfl) (.inl rfl) (.inl rfl) (.inl rfl) (.inr ⟨_, _, _, e149⟩) (.inr ⟨_, _, _, e150⟩) (.inl rfl) (.inr ⟨_, _, _, e152⟩) (.inr ⟨_, _, _, e153⟩) (.inr ⟨_, _, _, e154⟩) (.inr ⟨_, _, _, e155⟩) (.inr ⟨_, _, _, e156⟩) (.inr ⟨_, _, _, e157⟩) (.inl rfl) (.inl rfl)
noncomputable def r10_ : N16 SF := .mk s160 .bad .bad .bad s164 s165 s166 s167 s168 s169 s170 s171 s172 s173 .bad s175
theorem r10ok : RowOK Tryz.prog 8 10 r10_ := fall (.inr ⟨_, _, _, e160⟩) (.inl rfl) (.inl rfl) (.inl rfl) (.inr ⟨_, _, _, e164⟩) (.inr ⟨_, _, _, e165⟩) (.inr ⟨_, _, _, e166⟩) (.inr ⟨_, _, _, e167⟩) (.inr ⟨_, _, _, e168⟩) (.inr ⟨_, _, _, e169⟩) (.inr ⟨_, _, _, e170⟩) (.inr ⟨_, _, _, e171⟩) (.inr ⟨_, _, _, e172⟩) (.inr ⟨_, _, _, e173⟩) (.inl rfl) (.inr ⟨_, _, _, e175⟩)
noncomputable def r11_ : N16 SF := .mk s176 s177 s178 s179 s180 s181 s182 s183 s184 s185 .bad s187 .bad s189 s190 .bad
theorem r11ok : RowOK Tryz.prog 8 11 r11_ := fall (.inr ⟨_, _, _, e176⟩) (.inr ⟨_, _, _, e177⟩) (.inr ⟨_, _, _, e178⟩) (.inr ⟨_, _, _, e179⟩) (.inr ⟨_, _, _, e180⟩) (.inr ⟨_, _, _, e181⟩) (.inr ⟨_, _, _, e182⟩) (.inr ⟨_, _, _, e183⟩) (.inr ⟨_, _, _, e184⟩) (.inr ⟨_, _, _, e185⟩) (.inl rfl) (.inr ⟨_, _, _, e187⟩) (.inl rfl) (.inr ⟨_, _, _, e189⟩) (.inr ⟨_, _, _, e190⟩) (.inl rfl)
noncomputable def r12_ : N16 SF := .mk .bad s193 .bad s195 s196 s197 s198 .bad .bad .bad s202 s203 s204 .bad .bad .bad
theorem r12ok : RowOK Tryz.prog 8 12 r12_ := fall (.inl rfl) (.inr ⟨_, _, _, e193⟩) (.inl rfl) (.inr ⟨_, _, _, e195⟩) (.inr ⟨_, _, _, e196⟩) (.inr ⟨_, _, _, e197⟩) (.inr ⟨_, _, _, e198⟩) (.inl rfl) (.inl rfl) (.inl rfl) (.inr ⟨_, _, _, e202⟩) (.inr ⟨_, _, _, e203⟩) (.inr ⟨_, _, _, e204⟩) (.inl rfl) (.inl rfl) (.inl rfl)
noncomputable def r13_ : N16 SF := .mk .bad .bad .bad .bad s212 s213 s214 s215 s216 s217 .bad s219 s220 .bad .bad .bad
theorem r13ok : RowOK Tryz.prog 8 13 r13_ := fall (.inl rfl) (.inl rfl) (.inl rfl) (.inl rfl) (.inr ⟨_, _, _, e212⟩) (.inr ⟨_, _, _, e213⟩) (.inr ⟨_, _, _, e214⟩) (.inr ⟨_, _, _, e215⟩) (.inr ⟨_, _, _, e216⟩) (.inr ⟨_, _, _, e217⟩) (.inl rfl) (.inr ⟨_, _, _, e219⟩) (.inr ⟨_, _, _, e220⟩) (.inl rfl) (.inl rfl) (.inl rfl)
noncomputable def r14_ : N16 SF := .mk .bad .bad .bad .bad .bad .bad s230 s231 s232 s233 s234 s235 s236 s237 s238 s239
theorem r14ok : RowOK Tryz.prog 8 14 r14_ := fall (.inl rfl) (.inl rfl) (.inl rfl) (.inl rfl) (.inl rfl) (.inl rfl) (.inr ⟨_, _, _, e230⟩) (.inr ⟨_, _, _, e231⟩) (.inr ⟨_, _, _, e232⟩) (.inr ⟨_, _, _, e233⟩) (.inr ⟨_, _, _, e234⟩) (.inr ⟨_, _, _, e235⟩) (.inr ⟨_, _, _, e236⟩) (.inr ⟨_, _, _, e237⟩) (.inr ⟨_, _, _, e238⟩) (.inr ⟨_, _, _, e239⟩)
noncomputable def r15_ : N16 SF := .mk s240 s241 s242 s243 .bad s245 .bad s247 s248 s249 s250 s251 s252 s253 s254 s255
theorem r15ok : RowOK Tryz.prog 8 15 r15_ := fall (.inr ⟨_, _, _, e240⟩) (.inr ⟨_, _, _, e241⟩) (.inr ⟨_, _, _, e242⟩) (.inr ⟨_, _, _, e243⟩) (.inl rfl) (.inr ⟨_, _, _, e245⟩) (.inl rfl) (.inr ⟨_, _, _, e247⟩) (.inr ⟨_, _, _, e248⟩) (.inr ⟨_, _, _, e249⟩) (.inr ⟨_, _, _, e250⟩) (.inr ⟨_, _, _, e251⟩) (.inr ⟨_, _, _, e252⟩) (.inr ⟨_, _, _, e253⟩) (.inr ⟨_, _, _, e254⟩) (.inr ⟨_, _, _, e255⟩)
noncomputable def r16_ : N16 SF := .mk s256 .bad s258 .bad .bad s261 s262 s263 s264 s265 s266 s267 .bad s269 s270 s271
theorem r16ok : RowOK Tryz.prog 8 16 r16_ := fall (.inr ⟨_, _, _, e256⟩) (.inl rfl) (.inr ⟨_, _, _, e258⟩) (.inl rfl) (.inl rfl) (.inr ⟨_, _, _, e261⟩) (.inr ⟨_, _, _, e262⟩) (.inr ⟨_, _, _, e263⟩) (.inr ⟨_, _, _, e264⟩) (.inr ⟨_, _, _, e265⟩) (.inr ⟨_, _, _, e266⟩) (.inr ⟨_, _, _, e267⟩) (.inl rfl) (.inr ⟨_, _, _, e269⟩) (.inr ⟨_, _, _, e270⟩) (.inr ⟨_, _, _, e271⟩)
noncomputable def r17_ : N16 SF := .mk s272 s273 s274 s275 .bad .bad .bad .bad .bad .bad .bad .bad .bad s285 .bad s287
theorem r17ok : RowOK Tryz.prog 8 17 r17_ := fall (.inr ⟨_, _, _, e272⟩) (.inr ⟨_, _, _, e273⟩) (.inr ⟨_, _, _, e274⟩) (.inr ⟨_, _, _, e275⟩) (.inl rfl) (.inl rfl) (.inl rfl) (.inl rfl) (.inl rfl) (.inl rfl) (.inl rfl) (.inl rfl) (.inl rfl) (.inr ⟨_, _, _, e285⟩) (.inl rfl) (.inr ⟨_, _, _, e287⟩)
noncomputable def r18_ : N16 SF := .mk s288 s289 s290 s291 s292 s293 s294 s295 .bad .bad .bad s299 s300 s301 s302 s303
theorem r18ok : RowOK Tryz.prog 8 18 r18_ := fall (.inr ⟨_, _, _, e288⟩) (.inr ⟨_, _, _, e289⟩) (.inr ⟨_, _, _, e290⟩) (.inr ⟨_, _, _, e291⟩) (.inr ⟨_, _, _, e292⟩) (.inr ⟨_, _, _, e293⟩) (.inr ⟨_, _, _, e294⟩) (.inr ⟨_, _, _, e295⟩) (.inl rfl) (.inl rfl) (.inl rfl) (.inr ⟨_, _, _, e299⟩) (.inr ⟨_, _, _, e300⟩) (.inr ⟨_, _, _, e301⟩) (.inr ⟨_, _, _, e302⟩) (.inr ⟨_, _, _, e303⟩)
noncomputable def r19_ : N16 SF := .mk s304 s305 s306 s307 s308 s309 s310 s311 s312 s313 s314 s315 s316 s317 s318 s319
theorem r19ok : RowOK Tryz.prog 8 19 r19_ := fall (.inr ⟨_, _, _, e304⟩) (.inr ⟨_, _, _, e305⟩) (.inr ⟨_, _, _, e306⟩) (.inr ⟨_, _, _, e307⟩) (.inr ⟨_, _, _, e308⟩) (.inr ⟨_, _, _, e309⟩) (.inr ⟨_, _, _, e310⟩) (.inr ⟨_, _, _, e311⟩) (.inr ⟨_, _, _, e312⟩) (.inr ⟨_, _, _, e313⟩) (.inr ⟨_, _, _, e314⟩) (.inr ⟨_, _, _, e315⟩) (.inr ⟨_, _, _, e316⟩) (.inr ⟨_, _, _, e317⟩) (.inr ⟨_, _, _, e318⟩) (.inr ⟨_, _, _, e319⟩)
noncomputable def r20_ : N16 SF := .mk s320 s321 .bad .bad .bad s325 s326 .bad s328 s329 s330 s331 s332 s333 s334 s335
theorem r20ok : RowOK Tryz.prog 8 20 r20_ := fall (.inr ⟨_, _, _, e320⟩) (.inr ⟨_, _, _, e321⟩) (.inl rfl) (.inl rfl) (.inl rfl) (.inr ⟨_, _, _, e325⟩) (.inr ⟨_, _, _, e326⟩) (.inl rfl) (.inr ⟨_, _, _, e328⟩) (.inr ⟨_, _, _, e329⟩) (.inr ⟨_, _, _, e330⟩) (.inr ⟨_, _, _, e331⟩) (.inr ⟨_, _, _, e332⟩) (.inr ⟨_, _, _, e333⟩) (.inr ⟨_, _, _, e334⟩) (.inr ⟨_, _, _, e335⟩)
noncomputable def r21_ : N16 SF := .mk .bad .bad .bad s339 s340 s341 s342 .bad s344 .bad .bad .bad .bad .bad s350 s351
theorem r21ok : RowOK Tryz.prog 8 21 r21_ := fall (.inl rfl) (.inl rfl) (.inl rfl) (.inr ⟨_, _, _, e339⟩) (.inr ⟨_, _, _, e340⟩) (.inr ⟨_, _, _, e341⟩) (.inr ⟨_, _, _, e342⟩) (.inl rfl) (.inr ⟨_, _, _, e344⟩) (.inl rfl) (.inl rfl) (.inl rfl) (.inl rfl) (.inl rfl) (.inr ⟨_, _, _, e350⟩) (.inr ⟨_, _, _, e351⟩)
noncomputable def r22_ : N16 SF := .mk s352 .bad .bad .bad s356 s357 .bad .bad .bad .bad .bad .bad .bad .bad .bad .bad
theorem r22ok : RowOK Tryz.prog 8 22 r22_ := fall (.inr ⟨_, _, _, e352⟩) (.inl rfl) (.inl rfl) (.inl rfl) (.inr ⟨_, _, _, e356⟩) (.inr ⟨_, _, _, e357⟩) (.inl rfl) (.inl rfl) (.inl rfl) (.inl rfl) (.inl rfl) (.inl rfl) (.inl rfl) (.inl rfl) (.inl rfl) (.inl rfl)
noncomputable def r23_ : N16 SF := .mk .bad .bad .bad .bad .bad .bad .bad .bad .bad .bad .bad .bad .bad .bad .bad s383
theorem r23ok : RowOK Tryz.prog 8 23 r23_ := fall (.inl rfl) (.inl rfl) (.inl rfl) (.inl rfl) (.inl rfl) (.inl rfl) (.inl rfl) (.inl rfl) (.inl rfl) (.inl rfl) (.inl rfl) (.inl rfl) (.inl rfl) (.inl rfl) (.inl rfl) (.inr ⟨_, _, _, e383⟩)
noncomputable def r24_ : N16 SF := .mk .bad s385 s386 s387 s388 s389 s390 s391 .bad .bad .bad .bad s396 .bad s398 s399
theorem r24ok : RowOK Tryz.prog 8 24 r24_ := fall (.inl rfl) (.inr ⟨_, _, _, e385⟩) (.inr ⟨_, _, _, e386⟩) (.inr ⟨_, _, _, e387⟩) (.inr ⟨_, _, _, e388⟩) (.inr ⟨_, _, _, e389⟩) (.inr ⟨_, _, _, e390⟩) (.inr ⟨_, _, _, e391⟩) (.inl rfl) (.inl rfl) (.inl rfl) (.inl rfl) (.inr ⟨_, _, _, e396⟩) (.inl rfl) (.inr ⟨_, _, _, e398⟩) (.inr ⟨_, _, _, e399⟩)
noncomputable def r25_ : N16 SF := .mk s400 s401 .bad .bad .bad .bad .bad .bad .bad .bad .bad .bad .bad .bad .bad .bad
theorem r25ok : RowOK Tryz.prog 8 25 r25_ := fall (.inr ⟨_, _, _, e400⟩) (.inr ⟨_, _, _, e401⟩) (.inl rfl) (.inl rfl) (.inl rfl) (.inl rfl) (.inl rfl) (.inl rfl) (.inl rfl) (.inl rfl) (.inl rfl) (.inl rfl) (.inl rfl) (.inl rfl) (.inl rfl) (.inl rfl)
noncomputable def b0_ : N16 (N16 SF) := .mk r0_ r1_ r2_ r3_ r4_ r5_ r6_ r7_ r8_ r9_ r10_ r11_ r12_ r13_ r14_ r15_
theorem b0ok : BlkOK Tryz.prog 8 0 b0_ := fall r0ok r1ok r2ok r3ok r4ok r5ok r6ok r7ok r8ok r9ok r10ok r11ok r12ok r13ok r14ok r15ok
noncomputable def b1_ : N16 (N16 SF) := .mk r16_ r17_ r18_ r19_ r20_ r21_ r22_ r23_ r24_ r25_ noRow noRow noRow noRow noRow noRow
theorem b1ok : BlkOK Tryz.prog 8 1 b1_ := fall r16ok r17ok r18ok r19ok r20ok r21ok r22ok r23ok r24ok r25ok noRow_ok noRow_ok noRow_ok noRow_ok noRow_ok noRow_ok
noncomputable def tab : Tab := .mk b0_ b1_ noBlk noBlk noBlk noBlk noBlk noBlk noBlk noBlk noBlk noBlk noBlk noBlk noBlk noBlk
theorem tabOK : TfOK Tryz.prog 8 (look3 tab) := tab_ok (fall b0ok b1ok noBlk_ok noBlk_ok noBlk_ok noBlk_ok noBlk_ok noBlk_ok noBlk_ok noBlk_ok noBlk_ok noBlk_ok noBlk_ok noBlk_ok noBlk_ok noBlk_ok)
end Go.Proofs.YtenigphjddnknaaGreatDoor
