/-
  The program's functions as plain ones: the table.
-/
import Derived.Test.YtogmgjcdicnceaaGreatDoorSh0
import Derived.Test.YtogmgjcdicnceaaGreatDoorSh1
import Derived.Test.YtogmgjcdicnceaaGreatDoorSh2
import Derived.Test.YtogmgjcdicnceaaGreatDoorSh3
namespace Go.Proofs.YtogmgjcdicnceaaGreatDoor
open Go Go.Eva Go.Fv Go.Fw
noncomputable def r0_ : N16 SF := .mk .bad .bad .bad s3 .bad .bad .bad s7 s8 s9 s10 s11 s12 s13 .bad .bad
theorem r0ok : RowOK Tryz.prog 1 0 r0_ := fall (.inl rfl) (.inl rfl) (.inl rfl) (.inr ⟨_, _, _, e3⟩) (.inl rfl) (.inl rfl) (.inl rfl) (.inr ⟨_, _, _, e7⟩) (.inr ⟨_, _, _, e8⟩) (.inr ⟨_, _, _, e9⟩) (.inr ⟨_, _, _, e10⟩) (.inr ⟨_, _, _, e11⟩) (.inr ⟨_, _, _, e12⟩) (.inr ⟨_, _, _, e13⟩) (.inl rfl) (.inl rfl)
noncomputable def r1_ : N16 SF := .mk .bad .bad .bad s19 s20 s21 s22 .bad s24 s25 .bad s27 s28 s29 s30 s31
theorem r1ok : RowOK Tryz.prog 1 1 r1_ := fall (.inl rfl) (.inl rfl) (.inl rfl) (.inr ⟨_, _, _, e19⟩) (.inr ⟨_, _, _, e20⟩) (.inr ⟨_, _, _, e21⟩) (.inr ⟨_, _, _, e22⟩) (.inl rfl) (.inr ⟨_, _, _, e24⟩) (.inr ⟨_, _, _, e25⟩) (.inl rfl) (.inr ⟨_, _, _, e27⟩) (.inr ⟨_, _, _, e28⟩) (.inr ⟨_, _, _, e29⟩) (.inr ⟨_, _, _, e30⟩) (.inr ⟨_, _, _, e31⟩)
noncomputable def r2_ : N16 SF := .mk s32 s33 s34 s35 s36 s37 .bad .bad .bad .bad .bad .bad s44 s45 .bad .bad
theorem r2ok : RowOK Tryz.prog 1 2 r2_ := fall (.inr ⟨_, _, _, e32⟩) (.inr ⟨_, _, _, e33⟩) (.inr ⟨_, _, _, e34⟩) (.inr ⟨_, _, _, e35⟩) (.inr ⟨_, _, _, e36⟩) (.inr ⟨_, _, _, e37⟩) (.inl rfl) (.inl rfl) (.inl rfl) (.inl rfl) (.inl rfl) (.inl rfl) (.inr ⟨_, _, _, e44⟩) (.inr ⟨_, _, _, e45⟩) (.inl rfl) (.inl rfl)
noncomputable def r3_ : N16 SF := .mk .bad .bad .bad .bad s52 s53 s54 s55 s56 .bad s58 .bad s60 .bad s62 s63
theorem r3ok : RowOK Tryz.prog 1 3 r3_ := fall (.inl rfl) (.inl rfl) (.inl rfl) (.inl rfl) (.inr ⟨_, _, _, e52⟩) (.inr ⟨_, _, _, e53⟩) (.inr ⟨_, _, _, e54⟩) (.inr ⟨_, _, _, e55⟩) (.inr ⟨_, _, _, e56⟩) (.inl rfl) (.inr ⟨_, _, _, e58⟩) (.inl rfl) (.inr ⟨_, _, _, e60⟩) (.inl rfl) (.inr ⟨_, _, _, e62⟩) (.inr ⟨_, _, _, e63⟩)
noncomputable def r4_ : N16 SF := .mk s64 s65 s66 s67 s68 s69 s70 s71 s72 s73 s74 s75 s76 s77 s78 s79
theorem r4ok : RowOK Tryz.prog 1 4 r4_ := fall (.inr ⟨_, _, _, e64⟩) (.inr ⟨_, _, _, e65⟩) (.inr ⟨_, _, _, e66⟩) (.inr ⟨_, _, _, e67⟩) (.inr ⟨_, _, _, e68⟩) (.inr ⟨_, _, _, e69⟩) (.inr ⟨_, _, _, e70⟩) (.inr ⟨_, _, _, e71⟩) (.inr ⟨_, _, _, e72⟩) (.inr ⟨_, _, _, e73⟩) (.inr ⟨_, _, _, e74⟩) (.inr ⟨_, _, _, e75⟩) (.inr ⟨_, _, _, e76⟩) (.inr ⟨_, _, _, e77⟩) (.inr ⟨_, _, _, e78⟩) (.inr ⟨_, _, _, e79⟩)
noncomputable def r5_ : N16 SF := .mk s80 s81 s82 s83 s84 .bad .bad .bad .bad .bad .bad .bad .bad .bad .bad .bad
theorem r5ok : RowOK Tryz.prog 1 5 r5_ := fall (.inr ⟨_, _, _, e80⟩) (.inr ⟨_, _, _, e81⟩) (.inr ⟨_, _, _, e82⟩) (.inr ⟨_, _, _, e83⟩) (.inr ⟨_, _, _, e84⟩) (.inl rfl) (.inl rfl) (.inl rfl) (.inl rfl) (.inl rfl) (.inl rfl) (.inl rfl) (.inl rfl) (.inl rfl) (.inl rfl) (.inl rfl)
noncomputable def r6_ : N16 SF := .mk .bad .bad .bad .bad .bad .bad .bad .bad .bad .bad .bad s107 .bad s109 s110 .bad
theorem r6ok : RowOK Tryz.prog 1 6 r6_ := fall (.inl rfl) (.inl rfl) (.inl rfl) (.inl rfl) (.inl rfl) (.inl rfl) (.inl rfl) (.inl rfl) (.inl rfl) (.inl rfl) (.inl rfl) (.inr ⟨_, _, _, e107⟩) (.inl rfl) (.inr ⟨_, _, _, e109⟩) (.inr ⟨_, _, _, e110⟩) (.inl rfl)
noncomputable def r7_ : N16 SF := .mk .bad .bad .bad s115 .bad .bad s118 s119 s120 s121 .bad .bad s124 s125 s126 s127
theorem r7ok : RowOK Tryz.prog 1 7 r7_ := fall (.inl rfl) (.inl rfl) (.inl rfl) (.inr ⟨_, _, _, e115⟩) (.inl rfl) (.inl rfl) (.inr ⟨_, _, _, e118⟩) (.inr ⟨_, _, _, e119⟩) (.inr ⟨_, _, _, e120⟩) (.inr ⟨_, _, _, e121⟩) (.inl rfl) (.inl rfl) (.inr ⟨_, _, _, e124⟩) (.inr ⟨_, _, _, e125⟩) (.inr ⟨_, _, _, e126⟩) (.inr ⟨_, _, _, e127⟩)
noncomputable def r8_ : N16 SF := .mk s128 s129 s130 s131 .bad s133 s134 s135 s136 s137 s138 s139 s140 s141 s142 s143
theorem r8ok : RowOK Tryz.prog 1 8 r8_ := fall (.inr ⟨_, _, _, e128⟩) (.inr ⟨_, _, _, e129⟩) (.inr ⟨_, _, _, e130⟩) (.inr ⟨_, _, _, e131⟩) (.inl rfl) (.inr ⟨_, _, _, e133⟩) (.inr ⟨_, _, _, e134⟩) (.inr ⟨_, _, _, e135⟩) (.inr ⟨_, _, _, e136⟩) (.inr ⟨_, _, _, e137⟩) (.inr ⟨_, _, _, e138⟩) (.inr ⟨_, _, _, e139⟩) (.inr ⟨_, _, _, e140⟩) (.inr ⟨_, _, _, e141⟩) (.inr ⟨_, _, _, e142⟩) (.inr ⟨_, _, _, e143⟩)
noncomputable def r10_ : N16 SF := .mk s160 s161 s162 .bad .bad .bad s166 s167 s168 s169 s170 s171 s172 s173 s174 s175
theorem r10ok : RowOK Tryz.prog 1 10 r10_ := fall (.inr ⟨_, _, _, e160⟩) (.inr ⟨_, _, _, e161⟩) (.inr ⟨_, _, _, e162⟩) (.inl rfl) (.inl rfl) (.inl rfl) (.inr ⟨_, _, _, e166⟩) (.inr ⟨_, _, _, e167⟩) (.inr ⟨_, _, _, e168⟩) (.inr ⟨_, _, _, e169⟩) (.inr ⟨_, _, _, e170⟩) (.inr ⟨_, _, _, e171⟩) (.inr ⟨_, _, _, e172⟩) (.inr ⟨_, _, _, e173⟩) (.inr ⟨_, _, _, e174⟩) (.inr ⟨_, _, _, e175⟩)
noncomputable def r11_ : N16 SF := .mk s176 s177 s178 s179 s180 s181 s182 s183 s184 s185 s186 s187 .bad .bad s190 s191
theorem r11ok : RowOK Tryz.prog 1 11 r11_ := fall (.inr ⟨_, _, _, e176⟩) (.inr ⟨_, _, _, e177⟩) (.inr ⟨_, _, _, e178⟩) (.inr ⟨_, _, _, e179⟩) (.inr ⟨_, _, _, e180⟩) (.inr ⟨_, _, _, e181⟩) (.inr ⟨_, _, _, e182⟩) (.inr ⟨_, _, _, e183⟩) (.inr ⟨_, _, _, e184⟩) (.inr ⟨_, _, _, e185⟩) (.inr ⟨_, _, _, e186⟩) (.inr ⟨_, _, _, e187⟩) (.inl rfl) (.inl rfl) (.inr ⟨_, _, _, e190⟩) (.inr ⟨_, _, _, e191⟩)
noncomputable def r12_ : N16 SF := .mk .bad s193 s194 s195 s196 .bad s198 s199 .bad s201 s202 .bad .bad .bad .bad .bad
theorem r12ok : RowOK Tryz.prog 1 12 r12_ := fall (.inl rfl) (.inr ⟨_, _, _, e193⟩) (.inr ⟨_, _, _, e194⟩) (.inr ⟨_, _, _, e195⟩) (.inr ⟨_, _, _, e196⟩) (.inl rfl) (.inr ⟨_, _, _, e198⟩) (.inr ⟨_, _, _, e199⟩) (.inl rfl) (.inr ⟨_, _, _, e201⟩) (.inr ⟨_, _, _, e202⟩) (.inl rfl) (.inl rfl) (.inl rfl) (.inl rfl) (.inl rfl)
noncomputable def r13_ : N16 SF := .mk .bad .bad s210 .bad .bad .bad s214 s215 s216 s217 s218 s219 s220 s221 s222 s223
theorem r13ok : RowOK Tryz.prog 1 13 r13_ := fall (.inl rfl) (.inl rfl) (.inr ⟨_, _, _, e210⟩) (.inl rfl) (.inl rfl) (.inl rfl) (.inr ⟨_, _, _, e214⟩) (.inr ⟨_, _, _, e215⟩) (.inr ⟨_, _, _, e216⟩) (.inr ⟨_, _, _, e217⟩) (.inr ⟨_, _, _, e218⟩) (.inr ⟨_, _, _, e219⟩) (.inr ⟨_, _, _, e220⟩) (.inr ⟨_, _, _, e221⟩) (.inr ⟨_, _, _, e222⟩) (.inr ⟨_, _, _, e223⟩)
noncomputable def r14_ : N16 SF := .mk s224 s225 s226 s227 s228 s229 .bad .bad s232 s233 s234 s235 s236 s237 s238 .bad
theorem r14ok : RowOK Tryz.prog 1 14 r14_ := fall (.inr ⟨_, _, _, e224⟩) (.inr ⟨_, _, _, e225⟩) (.inr ⟨_, _, _, e226⟩) (.inr ⟨_, _, _, e227⟩) (.inr ⟨_, _, _, e228⟩) (.inr ⟨_, _, _, e229⟩) (.inl rfl) (.inl rfl) (.inr ⟨_, _, _, e232⟩) (.inr ⟨_, _, _, e233⟩) (.inr ⟨_, _, _, e234⟩) (.inr ⟨_, _, _, e235⟩) (.inr ⟨_, _, _, e236⟩) (.inr ⟨_, _, _, e237⟩) (.inr ⟨_, _, _, e238⟩) (.inl rfl)
noncomputable def r15_ : N16 SF := .mk .bad s241 .bad .bad .bad s245 .bad s247 s248 s249 .bad .bad .bad .bad s254 s255
theorem r15ok : RowOK Tryz.prog 1 15 r15_ := fall (.inl rfl) (.inr ⟨_, _, _, e241⟩) (.inl rfl) (.inl rfl) (.inl rfl) (.inr ⟨_, _, _, e245⟩) (.inl rfl) (.inr ⟨_, _, _, e247⟩) (.inr ⟨_, _, _, e248⟩) (.inr ⟨_, _, _, e249⟩) (.inl rfl) (.inl rfl) (.inl rfl) (.inl rfl) (.inr ⟨_, _, _, e254⟩) (.inr ⟨_, _, _, e255⟩)
noncomputable def r16_ : N16 SF := .mk s256 s257 s258 s259 s260 s261 s262 s263 s264 s265 s266 .bad .bad .bad .bad .bad
theorem r16ok : RowOK Tryz.prog 1 16 r16_ := fall (.inr ⟨_, _, _, e256⟩) (.inr ⟨_, _, _, e257⟩) (.inr ⟨_, _, _, e258⟩) (.inr ⟨_, _, _, e259⟩) (.inr ⟨_, _, _, e260⟩) (.inr ⟨_, _, _, e261⟩) (.inr ⟨_, _, _, e262⟩) (.inr ⟨_, _, _, e263⟩) (.inr ⟨_, _, _, e264⟩) (.inr ⟨_, _, _, e265⟩) (.inr ⟨_, _, _, e266⟩) (.inl rfl) (.inl rfl) (.inl rfl) (.inl rfl) (.inl rfl)
noncomputable def r17_ : N16 SF := .mk .bad s273 s274 s275 .bad .bad s278 .bad .bad .bad .bad .bad .bad .bad .bad .bad
theorem r17ok : RowOK Tryz.prog 1 17 r17_ := fall (.inl rfl) (.inr ⟨_, _, _, e273⟩) (.inr ⟨_, _, _, e274⟩) (.inr ⟨_, _, _, e275⟩) (.inl rfl) (.inl rfl) (.inr ⟨_, _, _, e278⟩) (.inl rfl) (.inl rfl) (.inl rfl) (.inl rfl) (.inl rfl) (.inl rfl) (.inl rfl) (.inl rfl) (.inl rfl)
noncomputable def r18_ : N16 SF := .mk s288 s289 s290 .bad .bad .bad .bad .bad .bad .bad .bad .bad .bad .bad .bad .bad
theorem r18ok : RowOK Tryz.prog 1 18 r18_ := fall (.inr ⟨_, _, _, e288⟩) (.inr ⟨_, _, _, e289⟩) (.inr ⟨_, _, _, e290⟩) (.inl rfl) (.inl rfl) (.inl rfl) (.inl rfl) (.inl rfl) (.inl rfl) (.inl rfl) (.inl rfl) (.inl rfl) (.inl rfl) (.inl rfl) (.inl rfl) (.inl rfl)
noncomputable def r21_ : N16 SF := .mk .bad s337 .bad s339 s340 s341 s342 .bad .bad .bad .bad .bad .bad .bad .bad .bad
theorem r21ok : RowOK Tryz.prog 1 21 r21_ := fall (.inl rfl) (.inr ⟨_, _, _, e337⟩) (.inl rfl) (.inr ⟨_, _, _, e339⟩) (.inr ⟨_, _, _, e340⟩) (.inr ⟨_, _, _, e341⟩) (.inr ⟨_, _, _, e342⟩) (.inl rfl) (.inl rfl) (.inl rfl) (.inl rfl) (.inl rfl) (.inl rfl) (.inl rfl) (.inl rfl) (.inl rfl)
noncomputable def b0_ : N16 (N16 SF) := .mk r0_ r1_ r2_ r3_ r4_ r5_ r6_ r7_ r8_ noRow r10_ r11_ r12_ r13_ r14_ r15_
theorem b0ok : BlkOK Tryz.prog 1 0 b0_ := fall r0ok r1ok r2ok r3ok r4ok r5ok r6ok r7ok r8ok noRow_ok r10ok r11ok r12ok r13ok r14ok r15ok
noncomputable def b1_ : N16 (N16 SF) := .mk r16_ r17_ r18_ noRow noRow r21_ noRow noRow noRow noRow noRow noRow noRow noRow noRow noRow
theorem b1ok : BlkOK Tryz.prog 1 1 b1_ := fall r16ok r17ok r18ok noRow_ok noRow_ok r21ok noRow_ok noRow_ok noRow_ok noRow_ok noRow_ok noRow_ok noRow_ok noRow_ok noRow_ok noRow_ok
noncomputable def tab : Tab := .mk b0_ b1_ noBlk noBlk noBlk noBlk noBlk noBlk noBlk noBlk noBlk noBlk noBlk noBlk noBlk noBlk
theorem tabOK : TfOK Tryz.prog 1 (look3 tab) := tab_ok (fall b0ok b1ok noBlk_ok noBlk_ok noBlk_ok noBlk_ok noBlk_ok noBlk_ok noBlk_ok noBlk_ok noBlk_ok noBlk_ok noBlk_ok noBlk_ok noBlk_ok noBlk_ok)
end Go.Proofs.YtogmgjcdicnceaaGreatDoor
