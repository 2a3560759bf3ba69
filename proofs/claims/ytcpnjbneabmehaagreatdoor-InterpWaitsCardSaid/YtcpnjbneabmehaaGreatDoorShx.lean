/-
  The program's functions as plain ones: the table.
-/
import Derived.Test.YtcpnjbneabmehaaGreatDoorSh0
import Derived.Test.YtcpnjbneabmehaaGreatDoorSh1
import Derived.Test.YtcpnjbneabmehaaGreatDoorSh2
import Derived.Test.YtcpnjbneabmehaaGreatDoorSh3
import Derived.Test.YtcpnjbneabmehaaGreatDoorSh4
import Derived.Test.YtcpnjbneabmehaaGreatDoorSh5
namespace Go.Proofs.YtcpnjbneabmehaaGreatDoor
open Go Go.Eva Go.Fv Go.Fw
noncomputable def r0_ : N16 SF := .mk .bad .bad .bad .bad .bad .bad .bad .bad s8 s9 s10 s11 s12 .bad .bad s15
theorem r0ok : RowOK Tryz.prog 1 0 r0_ := fall (.inl rfl) (.inl rfl) (.inl rfl) (.inl rfl) (.inl rfl) (.inl rfl) (.inl rfl) (.inl rfl) (.inr ⟨_, _, _, e8⟩) (.inr ⟨_, _, _, e9⟩) (.inr ⟨_, _, _, e10⟩) (.inr ⟨_, _, _, e11⟩) (.inr ⟨_, _, _, e12⟩) (.inl rfl) (.inl rfl) (.inr ⟨_, _, _, e15⟩)
noncomputable def r1_ : N16 SF := .mk s16 s17 s18 .bad s20 s21 s22 s23 s24 .bad s26 .bad .bad .bad .bad s31
theorem r1ok : RowOK Tryz.prog 1 1 r1_ := fall (.inr ⟨_, _, _, e16⟩) (.inr ⟨_, _, _, e17⟩) (.inr ⟨_, _, _, e18⟩) (.inl rfl) (.inr ⟨_, _, _, e20⟩) (.inr ⟨_, _, _, e21⟩) (.inr ⟨_, _, _, e22⟩) (.inr ⟨_, _, _, e23⟩) (.inr ⟨_, _, _, e24⟩) (.inl rfl) (.inr ⟨_, _, _, e26⟩) (.inl rfl) (.inl rfl) (.inl rfl) (.inl rfl) (.inr ⟨_, _, _, e31⟩)
noncomputable def r2_ : N16 SF := .mk s32 s33 s34 s35 s36 s37 s38 .bad s40 s41 s42 s43 s44 s45 s46 s47
theorem r2ok : RowOK Tryz.prog 1 2 r2_ := fall (.inr ⟨_, _, _, e32⟩) (.inr ⟨_, _, _, e33⟩) (.inr ⟨_, _, _, e34⟩) (.inr ⟨_, _, _, e35⟩) (.inr ⟨_, _, _, e36⟩) (.inr ⟨_, _, _, e37⟩) (.inr ⟨_, _, _, e38⟩) (.inl rfl) (.inr ⟨_, _, _, e40⟩) (.inr ⟨_, _, _, e41⟩) (.inr ⟨_, _, _, e42⟩) (.inr ⟨_, _, _, e43⟩) (.inr ⟨_, _, _, e44⟩) (.inr ⟨_, _, _, e45⟩) (.inr ⟨_, _, _, e46⟩) (.inr ⟨_, _, _, e47⟩)
noncomputable def r3_ : N16 SF := .mk s48 s49 s50 s51 s52 s53 .bad .bad .bad s57 .bad .bad s60 s61 s62 s63
theorem r3ok : RowOK Tryz.prog 1 3 r3_ := fall (.inr ⟨_, _, _, e48⟩) (.inr ⟨_, _, _, e49⟩) (.inr ⟨_, _, _, e50⟩) (.inr ⟨_, _, _, e51⟩) (.inr ⟨_, _, _, e52⟩) (.inr ⟨_, _, _, e53⟩) (.inl rfl) (.inl rfl) (.inl rfl) (.inr ⟨_, _, _, e57⟩) (.inl rfl) (.inl rfl) (.inr ⟨_, _, _, e60⟩) (.inr ⟨_, _, _, e61⟩) (.inr ⟨_, _, _, e62⟩) (.inr ⟨_, _, _, e63⟩)
noncomputable def r4_ : N16 SF := .mk s64 s65 s66 s67 s68 s69 s70 s71 s72 s73 s74 s75 s76 s77 s78 s79
theorem r4ok : RowOK Tryz.prog 1 4 r4_ := fall (.inr ⟨_, _, _, e64⟩) (.inr ⟨_, _, _, e65⟩) (.inr ⟨_, _, _, e66⟩) (.inr ⟨_, _, _, e67⟩) (.inr ⟨_, _, _, e68⟩) (.inr ⟨_, _, _, e69⟩) (.inr ⟨_, _, _, e70⟩) (.inr ⟨_, _, _, e71⟩) (.inr ⟨_, _, _, e72⟩) (.inr ⟨_, _, _, e73⟩) (.inr ⟨_, _, _, e74⟩) (.inr ⟨_, _, _, e75⟩) (.inr ⟨_, _, _, e76⟩) (.inr ⟨_, _, _, e77⟩) (.inr ⟨_, _, _, e78⟩) (.inr ⟨_, _, _, e79⟩)
noncomputable def r5_ : N16 SF := .mk s80 s81 s82 s83 s84 s85 .bad s87 s88 .bad .bad .bad s92 s93 .bad .bad
theorem r5ok : RowOK Tryz.prog 1 5 r5_ := fall (.inr ⟨_, _, _, e80⟩) (.inr ⟨_, _, _, e81⟩) (.inr ⟨_, _, _, e82⟩) (.inr ⟨_, _, _, e83⟩) (.inr ⟨_, _, _, e84⟩) (.inr ⟨_, _, _, e85⟩) (.inl rfl) (.inr ⟨_, _, _, e87⟩) (.inr ⟨_, _, _, e88⟩) (.inl rfl) (.inl rfl) (.inl rfl) (.inr ⟨_, _, _, e92⟩) (.inr ⟨_, _, _, e93⟩) (.inl rfl) (.inl rfl)
noncomputable def r6_ : N16 SF := .mk .bad s97 s98 s99 s100 s101 s102 s103 s104 s105 .bad s107 s108 s109 s110 s111
theorem r6ok : RowOK Tryz.prog 1 6 r6_ := fall (.inl rfl) (.inr ⟨_, _, _, e97⟩) (.inr ⟨_, _, _, e98⟩) (.inr ⟨_, _, _, e99⟩) (.inr ⟨_, _, _, e100⟩) (.inr ⟨_, _, _, e101⟩) (.inr ⟨_, _, _, e102⟩) (.inr ⟨_, _, _, e103⟩) (.inr ⟨_, _, _, e104⟩) (.inr ⟨_, _, _, e105⟩) (.inl rfl) (.inr ⟨_, _, _, e107⟩) (.inr ⟨_, _, _, e108⟩) (.inr ⟨_, _, _, e109⟩) (.inr ⟨_, _, _, e110⟩) (.inr ⟨_, _, _, e111⟩)
noncomputable def r7_ : N16 SF := .mk s112 s113 s114 .bad .bad s117 s118 s119 s120 s121 s122 s123 s124 s125 s126 s127
theorem r7ok : RowOK Tryz.prog 1 7 r7_ := fall (.inr ⟨_, _, _, e112⟩) (.inr ⟨_, _, _, e113⟩) (.inr ⟨_, _, _, e114⟩) (.inl rfl) (.inl rfl) (.inr ⟨_, _, _, e117⟩) (.inr ⟨_, _, _, e118⟩) (.inr ⟨_, _, _, e119⟩) (.inr ⟨_, _, _, e120⟩) (.inr ⟨_, _, _, e121⟩) (.inr ⟨_, _, _, e122⟩) (.inr ⟨_, _, _, e123⟩) (.inr ⟨_, _, _, e124⟩) (.inr ⟨_, _, _, e125⟩) (.inr ⟨_, _, _, e126⟩) (.inr ⟨_, _, _, e127⟩)
noncomputable def r8_ : N16 SF := .mk s128 s129 s130 .bad s132 .bad .bad .bad s136 s137 s138 s139 s140 s141 s142 s143
theorem r8ok : RowOK Tryz.prog 1 8 r8_ := fall (.inr ⟨_, _, _, e128⟩) (.inr ⟨_, _, _, e129⟩) (.inr ⟨_, _, _, e130⟩) (.inl rfl) (.inr ⟨_, _, _, e132⟩) (.inl rfl) (.inl rfl) (.inl rfl) (.inr ⟨_, _, _, e136⟩) (.inr ⟨_, _, _, e137⟩) (.inr ⟨_, _, _, e138⟩) (.inr ⟨_, _, _, e139⟩) (.inr ⟨_, _, _, e140⟩) (.inr ⟨_, _, _, e141⟩) (.inr ⟨_, _, _, e142⟩) (.inr ⟨_, _, _, e143⟩)
noncomputable def r9_ : N16 SF := .mk s144 s145 s146 s147 s148 s149 s150 s151 s152 s153 s154 s155 s156 s157 s158 .bad
theorem r9ok : RowOK Tryz.prog 1 9 r9_ := fall (.inr ⟨_, _, _, e144⟩) (.inr ⟨_, _, _, e145⟩) (.inr ⟨_, _, _, e146⟩) (.inr ⟨_, _, _, e147⟩) (.inr ⟨_, _, _, e148⟩) (.inr ⟨_, _, _, e149⟩) (.inr ⟨_, _, _, e150⟩) (.inr ⟨_, _, _, e151⟩) (.inr ⟨_, _, _, e152⟩) (.inr ⟨_, _, _, e153⟩) (.inr ⟨_, _, _, e154⟩) (.inr ⟨_, _, _, e155⟩) (.inr ⟨_, _, _, e156⟩) (.inr ⟨_, _, _, e157⟩) (.inr ⟨_, _, _, e158⟩) (.inl rfl)
noncomputable def r10_ : N16 SF := .mk s160 .bad s162 s163 .bad s165 s166 .bad s168 s169 .bad s171 s172 s173 s174 s175
theorem r10ok : RowOK Tryz.prog 1 10 r10_ := fall (.inr ⟨_, _, _, e160⟩) (.inl rfl) (.inr ⟨_, _, _, e162⟩) (.inr ⟨_, _, _, e163⟩) (.inl rfl) (.inr ⟨_, _, _, e165⟩) (.inr ⟨_, _, _, e166⟩) (.inl rfl) (.inr ⟨_, _, _, e168⟩) (.inr ⟨_, _, _, e169⟩) (.inl rfl) (.inr ⟨_, _, _, e171⟩) (.inr ⟨_, _, _, e172⟩) (.inr ⟨_, _, _, e173⟩) (.inr ⟨_, _, _, e174⟩) (.inr ⟨_, _, _, e175⟩)
noncomputable def r11_ : N16 SF := .mk s176 s177 s178 s179 s180 s181 s182 s183 .bad s185 s186 s187 .bad .bad .bad .bad
theorem r11ok : RowOK Tryz.prog 1 11 r11_ := fall (.inr ⟨_, _, _, e176⟩) (.inr ⟨_, _, _, e177⟩) (.inr ⟨_, _, _, e178⟩) (.inr ⟨_, _, _, e179⟩) (.inr ⟨_, _, _, e180⟩) (.inr ⟨_, _, _, e181⟩) (.inr ⟨_, _, _, e182⟩) (.inr ⟨_, _, _, e183⟩) (.inl rfl) (.inr ⟨_, _, _, e185⟩) (.inr ⟨_, _, _, e186⟩) (.inr ⟨_, _, _, e187⟩) (.inl rfl) (.inl rfl) (.inl rfl) (.inl rfl)
noncomputable def r12_ : N16 SF := .mk s192 s193 .bad s195 s196 s197 s198 s199 s200 s201 s202 s203 s204 .bad .bad s207
theorem r12ok : RowOK Tryz.prog 1 12 r12_ := fall (.inr ⟨_, _, _, e192⟩) (.inr ⟨_, _, _, e193⟩) (.inl rfl) (.inr ⟨_, _, _, e195⟩) (.inr ⟨_, _, _, e196⟩) (.inr ⟨_, _, _, e197⟩) (.inr ⟨_, _, _, e198⟩) (.inr ⟨_, _, _, e199⟩) (.inr ⟨_, _, _, e200⟩) (.inr ⟨_, _, _, e201⟩) (.inr ⟨_, _, _, e202⟩) (.inr ⟨_, _, _, e203⟩) (.inr ⟨_, _, _, e204⟩) (.inl rfl) (.inl rfl) (.inr ⟨_, _, _, e207⟩)
noncomputable def r13_ : N16 SF := .mk .bad .bad .bad .bad .bad .bad .bad .bad .bad s217 .bad .bad .bad .bad .bad .bad
theorem r13ok : RowOK Tryz.prog 1 13 r13_ := fall (.inl rfl) (.inl rfl) (.inl rfl) (.inl rfl) (.inl rfl) (.inl rfl) (.inl rfl) (.inl rfl) (.inl rfl) (.inr ⟨_, _, _, e217⟩) (.inl rfl) (.inl rfl) (.inl rfl) (.inl rfl) (.inl rfl) (.inl rfl)
noncomputable def r15_ : N16 SF := .mk .bad .bad .bad .bad .bad .bad .bad .bad .bad .bad .bad .bad s252 .bad s254 s255
theorem r15ok : RowOK Tryz.prog 1 15 r15_ := fall (.inl rfl) (.inl rfl) (.inl rfl) (.inl rfl) (.inl rfl) (.inl rfl) (.inl rfl) (.inl rfl) (.inl rfl) (.inl rfl) (.inl rfl) (.inl rfl) (.inr ⟨_, _, _, e252⟩) (.inl rfl) (.inr ⟨_, _, _, e254⟩) (.inr ⟨_, _, _, e255⟩)
noncomputable def r16_ : N16 SF := .mk s256 s257 .bad s259 .bad .bad .bad .bad .bad .bad .bad .bad .bad .bad .bad .bad
theorem r16ok : RowOK Tryz.prog 1 16 r16_ := fall (.inr ⟨_, _, _, e256⟩) (.inr ⟨_, _, _, e257⟩) (.inl rfl) (.inr ⟨_, _, _, e259⟩) (.inl rfl) (.inl rfl) (.inl rfl) (.inl rfl) (.inl rfl) (.inl rfl) (.inl rfl) (.inl rfl) (.inl rfl) (.inl rfl) (.inl rfl) (.inl rfl)
noncomputable def b0_ : N16 (N16 SF) := .mk r0_ r1_ r2_ r3_ r4_ r5_ r6_ r7_ r8_ r9_ r10_ r11_ r12_ r13_ noRow r15_
theorem b0ok : BlkOK Tryz.prog 1 0 b0_ := fall r0ok r1ok r2ok r3ok r4ok r5ok r6ok r7ok r8ok r9ok r10ok r11ok r12ok r13ok noRow_ok r15ok
noncomputable def b1_ : N16 (N16 SF) := .mk r16_ noRow noRow noRow noRow noRow noRow noRow noRow noRow noRow noRow noRow noRow noRow noRow
theorem b1ok : BlkOK Tryz.prog 1 1 b1_ := fall r16ok noRow_ok noRow_ok noRow_ok noRow_ok noRow_ok noRow_ok noRow_ok noRow_ok noRow_ok noRow_ok noRow_ok noRow_ok noRow_ok noRow_ok noRow_ok
noncomputable def tab : Tab := .mk b0_ b1_ noBlk noBlk noBlk noBlk noBlk noBlk noBlk noBlk noBlk noBlk noBlk noBlk noBlk noBlk
theorem tabOK : TfOK Tryz.prog 1 (look3 tab) := tab_ok (fall b0ok b1ok noBlk_ok noBlk_ok noBlk_ok noBlk_ok noBlk_ok noBlk_ok noBlk_ok noBlk_ok noBlk_ok noBlk_ok noBlk_ok noBlk_ok noBlk_ok noBlk_ok)
end Go.Proofs.YtcpnjbneabmehaaGreatDoor
