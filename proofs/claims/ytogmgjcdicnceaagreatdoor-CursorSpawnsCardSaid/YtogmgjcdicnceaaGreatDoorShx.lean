/-
  The program's functions as plain ones: the table.
-/
import Derived.Test.YtogmgjcdicnceaaGreatDoorSh0
import Derived.Test.YtogmgjcdicnceaaGreatDoorSh1
namespace Go.Proofs.YtogmgjcdicnceaaGreatDoor
open Go Go.Eva Go.Fv Go.Fw
noncomputable def r0_ : N16 SF := .mk .bad .bad .bad .bad .bad .bad s6 s7 s8 .bad .bad s11 s12 s13 .bad .bad
theorem r0ok : RowOK Tryz.prog 1 0 r0_ := fall (.inl rfl) (.inl rfl) (.inl rfl) (.inl rfl) (.inl rfl) (.inl rfl) (.inr ⟨_, _, _, e6⟩) (.inr ⟨_, _, _, e7⟩) (.inr ⟨_, _, _, e8⟩) (.inl rfl) (.inl rfl) (.inr ⟨_, _, _, e11⟩) (.inr ⟨_, _, _, e12⟩) (.inr ⟨_, _, _, e13⟩) (.inl rfl) (.inl rfl)
noncomputable def r1_ : N16 SF := .mk .bad .bad .bad s19 s20 s21 s22 s23 s24 s25 s26 s27 s28 s29 s30 s31
theorem r1ok : RowOK Tryz.prog 1 1 r1_ := fall (.inl rfl) (.inl rfl) (.inl rfl) (.inr ⟨_, _, _, e19⟩) (.inr ⟨_, _, _, e20⟩) (.inr ⟨_, _, _, e21⟩) (.inr ⟨_, _, _, e22⟩) (.inr ⟨_, _, _, e23⟩) (.inr ⟨_, _, _, e24⟩) (.inr ⟨_, _, _, e25⟩) (.inr ⟨_, _, _, e26⟩) (.inr ⟨_, _, _, e27⟩) (.inr ⟨_, _, _, e28⟩) (.inr ⟨_, _, _, e29⟩) (.inr ⟨_, _, _, e30⟩) (.inr ⟨_, _, _, e31⟩)
noncomputable def r2_ : N16 SF := .mk .bad .bad .bad .bad s36 s37 .bad .bad .bad .bad .bad .bad s44 s45 .bad .bad
theorem r2ok : RowOK Tryz.prog 1 2 r2_ := fall (.inl rfl) (.inl rfl) (.inl rfl) (.inl rfl) (.inr ⟨_, _, _, e36⟩) (.inr ⟨_, _, _, e37⟩) (.inl rfl) (.inl rfl) (.inl rfl) (.inl rfl) (.inl rfl) (.inl rfl) (.inr ⟨_, _, _, e44⟩) (.inr ⟨_, _, _, e45⟩) (.inl rfl) (.inl rfl)
noncomputable def r3_ : N16 SF := .mk .bad .bad .bad .bad s52 s53 s54 s55 s56 s57 s58 s59 s60 s61 s62 s63
theorem r3ok : RowOK Tryz.prog 1 3 r3_ := fall (.inl rfl) (.inl rfl) (.inl rfl) (.inl rfl) (.inr ⟨_, _, _, e52⟩) (.inr ⟨_, _, _, e53⟩) (.inr ⟨_, _, _, e54⟩) (.inr ⟨_, _, _, e55⟩) (.inr ⟨_, _, _, e56⟩) (.inr ⟨_, _, _, e57⟩) (.inr ⟨_, _, _, e58⟩) (.inr ⟨_, _, _, e59⟩) (.inr ⟨_, _, _, e60⟩) (.inr ⟨_, _, _, e61⟩) (.inr ⟨_, _, _, e62⟩) (.inr ⟨_, _, _, e63⟩)
noncomputable def r4_ : N16 SF := .mk s64 s65 s66 s67 s68 s69 .bad s71 .bad .bad .bad .bad .bad .bad .bad .bad
theorem r4ok : RowOK Tryz.prog 1 4 r4_ := fall (.inr ⟨_, _, _, e64⟩) (.inr ⟨_, _, _, e65⟩) (.inr ⟨_, _, _, e66⟩) (.inr ⟨_, _, _, e67⟩) (.inr ⟨_, _, _, e68⟩) (.inr ⟨_, _, _, e69⟩) (.inl rfl) (.inr ⟨_, _, _, e71⟩) (.inl rfl) (.inl rfl) (.inl rfl) (.inl rfl) (.inl rfl) (.inl rfl) (.inl rfl) (.inl rfl)
noncomputable def r5_ : N16 SF := .mk s80 .bad s82 s83 s84 .bad .bad .bad .bad .bad .bad .bad .bad .bad .bad .bad
theorem r5ok : RowOK Tryz.prog 1 5 r5_ := fall (.inr ⟨_, _, _, e80⟩) (.inl rfl) (.inr ⟨_, _, _, e82⟩) (.inr ⟨_, _, _, e83⟩) (.inr ⟨_, _, _, e84⟩) (.inl rfl) (.inl rfl) (.inl rfl) (.inl rfl) (.inl rfl) (.inl rfl) (.inl rfl) (.inl rfl) (.inl rfl) (.inl rfl) (.inl rfl)
noncomputable def r6_ : N16 SF := .mk .bad .bad .bad .bad .bad .bad .bad .bad .bad .bad .bad s107 .bad s109 s110 .bad
theorem r6ok : RowOK Tryz.prog 1 6 r6_ := fall (.inl rfl) (.inl rfl) (.inl rfl) (.inl rfl) (.inl rfl) (.inl rfl) (.inl rfl) (.inl rfl) (.inl rfl) (.inl rfl) (.inl rfl) (.inr ⟨_, _, _, e107⟩) (.inl rfl) (.inr ⟨_, _, _, e109⟩) (.inr ⟨_, _, _, e110⟩) (.inl rfl)
noncomputable def r7_ : N16 SF := .mk .bad .bad .bad s115 .bad .bad .bad s119 s120 s121 .bad .bad s124 s125 .bad .bad
theorem r7ok : RowOK Tryz.prog 1 7 r7_ := fall (.inl rfl) (.inl rfl) (.inl rfl) (.inr ⟨_, _, _, e115⟩) (.inl rfl) (.inl rfl) (.inl rfl) (.inr ⟨_, _, _, e119⟩) (.inr ⟨_, _, _, e120⟩) (.inr ⟨_, _, _, e121⟩) (.inl rfl) (.inl rfl) (.inr ⟨_, _, _, e124⟩) (.inr ⟨_, _, _, e125⟩) (.inl rfl) (.inl rfl)
noncomputable def r8_ : N16 SF := .mk s128 .bad s130 s131 .bad s133 .bad .bad .bad .bad s138 .bad .bad .bad s142 s143
theorem r8ok : RowOK Tryz.prog 1 8 r8_ := fall (.inr ⟨_, _, _, e128⟩) (.inl rfl) (.inr ⟨_, _, _, e130⟩) (.inr ⟨_, _, _, e131⟩) (.inl rfl) (.inr ⟨_, _, _, e133⟩) (.inl rfl) (.inl rfl) (.inl rfl) (.inl rfl) (.inr ⟨_, _, _, e138⟩) (.inl rfl) (.inl rfl) (.inl rfl) (.inr ⟨_, _, _, e142⟩) (.inr ⟨_, _, _, e143⟩)
noncomputable def r10_ : N16 SF := .mk s160 s161 s162 .bad .bad .bad .bad s167 s168 s169 s170 .bad s172 .bad s174 s175
theorem r10ok : RowOK Tryz.prog 1 10 r10_ := fall (.inr ⟨_, _, _, e160⟩) (.inr ⟨_, _, _, e161⟩) (.inr ⟨_, _, _, e162⟩) (.inl rfl) (.inl rfl) (.inl rfl) (.inl rfl) (.inr ⟨_, _, _, e167⟩) (.inr ⟨_, _, _, e168⟩) (.inr ⟨_, _, _, e169⟩) (.inr ⟨_, _, _, e170⟩) (.inl rfl) (.inr ⟨_, _, _, e172⟩) (.inl rfl) (.inr ⟨_, _, _, e174⟩) (.inr ⟨_, _, _, e175⟩)
noncomputable def r11_ : N16 SF := .mk s176 s177 s178 s179 s180 s181 s182 s183 s184 s185 s186 s187 .bad .bad .bad .bad
theorem r11ok : RowOK Tryz.prog 1 11 r11_ := fall (.inr ⟨_, _, _, e176⟩) (.inr ⟨_, _, _, e177⟩) (.inr ⟨_, _, _, e178⟩) (.inr ⟨_, _, _, e179⟩) (.inr ⟨_, _, _, e180⟩) (.inr ⟨_, _, _, e181⟩) (.inr ⟨_, _, _, e182⟩) (.inr ⟨_, _, _, e183⟩) (.inr ⟨_, _, _, e184⟩) (.inr ⟨_, _, _, e185⟩) (.inr ⟨_, _, _, e186⟩) (.inr ⟨_, _, _, e187⟩) (.inl rfl) (.inl rfl) (.inl rfl) (.inl rfl)
noncomputable def r12_ : N16 SF := .mk .bad .bad .bad .bad s196 .bad .bad s199 .bad .bad .bad .bad .bad .bad .bad .bad
theorem r12ok : RowOK Tryz.prog 1 12 r12_ := fall (.inl rfl) (.inl rfl) (.inl rfl) (.inl rfl) (.inr ⟨_, _, _, e196⟩) (.inl rfl) (.inl rfl) (.inr ⟨_, _, _, e199⟩) (.inl rfl) (.inl rfl) (.inl rfl) (.inl rfl) (.inl rfl) (.inl rfl) (.inl rfl) (.inl rfl)
noncomputable def r13_ : N16 SF := .mk .bad .bad s210 .bad .bad .bad .bad .bad s216 s217 s218 s219 s220 s221 s222 s223
theorem r13ok : RowOK Tryz.prog 1 13 r13_ := fall (.inl rfl) (.inl rfl) (.inr ⟨_, _, _, e210⟩) (.inl rfl) (.inl rfl) (.inl rfl) (.inl rfl) (.inl rfl) (.inr ⟨_, _, _, e216⟩) (.inr ⟨_, _, _, e217⟩) (.inr ⟨_, _, _, e218⟩) (.inr ⟨_, _, _, e219⟩) (.inr ⟨_, _, _, e220⟩) (.inr ⟨_, _, _, e221⟩) (.inr ⟨_, _, _, e222⟩) (.inr ⟨_, _, _, e223⟩)
noncomputable def r14_ : N16 SF := .mk s224 s225 s226 s227 s228 .bad .bad .bad .bad .bad .bad .bad .bad .bad .bad .bad
theorem r14ok : RowOK Tryz.prog 1 14 r14_ := fall (.inr ⟨_, _, _, e224⟩) (.inr ⟨_, _, _, e225⟩) (.inr ⟨_, _, _, e226⟩) (.inr ⟨_, _, _, e227⟩) (.inr ⟨_, _, _, e228⟩) (.inl rfl) (.inl rfl) (.inl rfl) (.inl rfl) (.inl rfl) (.inl rfl) (.inl rfl) (.inl rfl) (.inl rfl) (.inl rfl) (.inl rfl)
noncomputable def r15_ : N16 SF := .mk .bad s241 .bad .bad .bad .bad .bad .bad .bad .bad .bad .bad .bad .bad .bad s255
theorem r15ok : RowOK Tryz.prog 1 15 r15_ := fall (.inl rfl) (.inr ⟨_, _, _, e241⟩) (.inl rfl) (.inl rfl) (.inl rfl) (.inl rfl) (.inl rfl) (.inl rfl) (.inl rfl) (.inl rfl) (.inl rfl) (.inl rfl) (.inl rfl) (.inl rfl) (.inl rfl) (.inr ⟨_, _, _, e255⟩)
noncomputable def r16_ : N16 SF := .mk s256 s257 s258 s259 s260 s261 s262 .bad .bad .bad .bad .bad .bad .bad .bad .bad
theorem r16ok : RowOK Tryz.prog 1 16 r16_ := fall (.inr ⟨_, _, _, e256⟩) (.inr ⟨_, _, _, e257⟩) (.inr ⟨_, _, _, e258⟩) (.inr ⟨_, _, _, e259⟩) (.inr ⟨_, _, _, e260⟩) (.inr ⟨_, _, _, e261⟩) (.inr ⟨_, _, _, e262⟩) (.inl rfl) (.inl rfl) (.inl rfl) (.inl rfl) (.inl rfl) (.inl rfl) (.inl rfl) (.inl rfl) (.inl rfl)
noncomputable def r17_ : N16 SF := .mk .bad s273 s274 .bad .bad .bad s278 .bad .bad .bad .bad .bad .bad .bad .bad .bad
theorem r17ok : RowOK Tryz.prog 1 17 r17_ := fall (.inl rfl) (.inr ⟨_, _, _, e273⟩) (.inr ⟨_, _, _, e274⟩) (.inl rfl) (.inl rfl) (.inl rfl) (.inr ⟨_, _, _, e278⟩) (.inl rfl) (.inl rfl) (.inl rfl) (.inl rfl) (.inl rfl) (.inl rfl) (.inl rfl) (.inl rfl) (.inl rfl)
noncomputable def r18_ : N16 SF := .mk s288 .bad .bad .bad .bad .bad .bad .bad .bad .bad .bad .bad .bad .bad .bad .bad
theorem r18ok : RowOK Tryz.prog 1 18 r18_ := fall (.inr ⟨_, _, _, e288⟩) (.inl rfl) (.inl rfl) (.inl rfl) (.inl rfl) (.inl rfl) (.inl rfl) (.inl rfl) (.inl rfl) (.inl rfl) (.inl rfl) (.inl rfl) (.inl rfl) (.inl rfl) (.inl rfl) (.inl rfl)
noncomputable def b0_ : N16 (N16 SF) := .mk r0_ r1_ r2_ r3_ r4_ r5_ r6_ r7_ r8_ noRow r10_ r11_ r12_ r13_ r14_ r15_
theorem b0ok : BlkOK Tryz.prog 1 0 b0_ := fall r0ok r1ok r2ok r3ok r4ok r5ok r6ok r7ok r8ok noRow_ok r10ok r11ok r12ok r13ok r14ok r15ok
noncomputable def b1_ : N16 (N16 SF) := .mk r16_ r17_ r18_ noRow noRow noRow noRow noRow noRow noRow noRow noRow noRow noRow noRow noRow
theorem b1ok : BlkOK Tryz.prog 1 1 b1_ := fall r16ok r17ok r18ok noRow_ok noRow_ok noRow_ok noRow_ok noRow_ok noRow_ok noRow_ok noRow_ok noRow_ok noRow_ok noRow_ok noRow_ok noRow_ok
noncomputable def tab : Tab := .mk b0_ b1_ noBlk noBlk noBlk noBlk noBlk noBlk noBlk noBlk noBlk noBlk noBlk noBlk noBlk noBlk
theorem tabOK : TfOK Tryz.prog 1 (look3 tab) := tab_ok (fall b0ok b1ok noBlk_ok noBlk_ok noBlk_ok noBlk_ok noBlk_ok noBlk_ok noBlk_ok noBlk_ok noBlk_ok noBlk_ok noBlk_ok noBlk_ok noBlk_ok noBlk_ok)
end Go.Proofs.YtogmgjcdicnceaaGreatDoor
