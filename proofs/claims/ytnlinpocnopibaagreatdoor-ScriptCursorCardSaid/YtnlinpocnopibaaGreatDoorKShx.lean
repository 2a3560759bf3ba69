/-
  The program's functions as plain ones: the table.
-/
import Derived.Test.YtnlinpocnopibaaGreatDoorKSh0
import Derived.Test.YtnlinpocnopibaaGreatDoorKSh1
namespace Go.Proofs.YtnlinpocnopibaaGreatDoor
open Go Go.Eva Go.Fv Go.Fw
noncomputable def r0_ : N16 SF := .mk .bad .bad .bad .bad .bad .bad .bad s7 .bad .bad s10 s11 .bad s13 .bad .bad
theorem r0ok : RowOK Tryz.prog 1 0 r0_ := fall (.inl rfl) (.inl rfl) (.inl rfl) (.inl rfl) (.inl rfl) (.inl rfl) (.inl rfl) (.inr ⟨_, _, _, e7⟩) (.inl rfl) (.inl rfl) (.inr ⟨_, _, _, e10⟩) (.inr ⟨_, _, _, e11⟩) (.inl rfl) (.inr ⟨_, _, _, e13⟩) (.inl rfl) (.inl rfl)
noncomputable def r1_ : N16 SF := .mk s16 .bad s18 .bad .bad s21 s22 s23 .bad .bad .bad .bad .bad s29 .bad .bad
theorem r1ok : RowOK Tryz.prog 1 1 r1_ := fall (.inr ⟨_, _, _, e16⟩) (.inl rfl) (.inr ⟨_, _, _, e18⟩) (.inl rfl) (.inl rfl) (.inr ⟨_, _, _, e21⟩) (.inr ⟨_, _, _, e22⟩) (.inr ⟨_, _, _, e23⟩) (.inl rfl) (.inl rfl) (.inl rfl) (.inl rfl) (.inl rfl) (.inr ⟨_, _, _, e29⟩) (.inl rfl) (.inl rfl)
noncomputable def r2_ : N16 SF := .mk s32 s33 s34 s35 .bad .bad s38 s39 s40 .bad .bad .bad .bad s45 s46 s47
theorem r2ok : RowOK Tryz.prog 1 2 r2_ := fall (.inr ⟨_, _, _, e32⟩) (.inr ⟨_, _, _, e33⟩) (.inr ⟨_, _, _, e34⟩) (.inr ⟨_, _, _, e35⟩) (.inl rfl) (.inl rfl) (.inr ⟨_, _, _, e38⟩) (.inr ⟨_, _, _, e39⟩) (.inr ⟨_, _, _, e40⟩) (.inl rfl) (.inl rfl) (.inl rfl) (.inl rfl) (.inr ⟨_, _, _, e45⟩) (.inr ⟨_, _, _, e46⟩) (.inr ⟨_, _, _, e47⟩)
noncomputable def r3_ : N16 SF := .mk .bad .bad .bad .bad s52 s53 .bad .bad .bad .bad s58 .bad .bad .bad s62 .bad
theorem r3ok : RowOK Tryz.prog 1 3 r3_ := fall (.inl rfl) (.inl rfl) (.inl rfl) (.inl rfl) (.inr ⟨_, _, _, e52⟩) (.inr ⟨_, _, _, e53⟩) (.inl rfl) (.inl rfl) (.inl rfl) (.inl rfl) (.inr ⟨_, _, _, e58⟩) (.inl rfl) (.inl rfl) (.inl rfl) (.inr ⟨_, _, _, e62⟩) (.inl rfl)
noncomputable def r4_ : N16 SF := .mk .bad s65 s66 s67 s68 s69 .bad .bad .bad s73 .bad s75 s76 s77 s78 s79
theorem r4ok : RowOK Tryz.prog 1 4 r4_ := fall (.inl rfl) (.inr ⟨_, _, _, e65⟩) (.inr ⟨_, _, _, e66⟩) (.inr ⟨_, _, _, e67⟩) (.inr ⟨_, _, _, e68⟩) (.inr ⟨_, _, _, e69⟩) (.inl rfl) (.inl rfl) (.inl rfl) (.inr ⟨_, _, _, e73⟩) (.inl rfl) (.inr ⟨_, _, _, e75⟩) (.inr ⟨_, _, _, e76⟩) (.inr ⟨_, _, _, e77⟩) (.inr ⟨_, _, _, e78⟩) (.inr ⟨_, _, _, e79⟩)
noncomputable def r5_ : N16 SF := .mk .bad .bad s82 s83 s84 s85 .bad .bad .bad .bad .bad .bad .bad s93 .bad s95
theorem r5ok : RowOK Tryz.prog 1 5 r5_ := fall (.inl rfl) (.inl rfl) (.inr ⟨_, _, _, e82⟩) (.inr ⟨_, _, _, e83⟩) (.inr ⟨_, _, _, e84⟩) (.inr ⟨_, _, _, e85⟩) (.inl rfl) (.inl rfl) (.inl rfl) (.inl rfl) (.inl rfl) (.inl rfl) (.inl rfl) (.inr ⟨_, _, _, e93⟩) (.inl rfl) (.inr ⟨_, _, _, e95⟩)
noncomputable def r6_ : N16 SF := .mk .bad s97 s98 .bad s100 .bad .bad .bad .bad .bad s106 s107 s108 s109 .bad .bad
theorem r6ok : RowOK Tryz.prog 1 6 r6_ := fall (.inl rfl) (.inr ⟨_, _, _, e97⟩) (.inr ⟨_, _, _, e98⟩) (.inl rfl) (.inr ⟨_, _, _, e100⟩) (.inl rfl) (.inl rfl) (.inl rfl) (.inl rfl) (.inl rfl) (.inr ⟨_, _, _, e106⟩) (.inr ⟨_, _, _, e107⟩) (.inr ⟨_, _, _, e108⟩) (.inr ⟨_, _, _, e109⟩) (.inl rfl) (.inl rfl)
noncomputable def r7_ : N16 SF := .mk .bad .bad .bad .bad s116 .bad s118 s119 s120 .bad .bad .bad s124 s125 .bad .bad
theorem r7ok : RowOK Tryz.prog 1 7 r7_ := fall (.inl rfl) (.inl rfl) (.inl rfl) (.inl rfl) (.inr ⟨_, _, _, e116⟩) (.inl rfl) (.inr ⟨_, _, _, e118⟩) (.inr ⟨_, _, _, e119⟩) (.inr ⟨_, _, _, e120⟩) (.inl rfl) (.inl rfl) (.inl rfl) (.inr ⟨_, _, _, e124⟩) (.inr ⟨_, _, _, e125⟩) (.inl rfl) (.inl rfl)
noncomputable def r8_ : N16 SF := .mk .bad s129 s130 s131 s132 s133 s134 .bad .bad .bad .bad .bad .bad .bad s142 .bad
theorem r8ok : RowOK Tryz.prog 1 8 r8_ := fall (.inl rfl) (.inr ⟨_, _, _, e129⟩) (.inr ⟨_, _, _, e130⟩) (.inr ⟨_, _, _, e131⟩) (.inr ⟨_, _, _, e132⟩) (.inr ⟨_, _, _, e133⟩) (.inr ⟨_, _, _, e134⟩) (.inl rfl) (.inl rfl) (.inl rfl) (.inl rfl) (.inl rfl) (.inl rfl) (.inl rfl) (.inr ⟨_, _, _, e142⟩) (.inl rfl)
noncomputable def r9_ : N16 SF := .mk s144 s145 s146 s147 .bad .bad .bad .bad .bad .bad .bad s155 s156 .bad .bad .bad
theorem r9ok : RowOK Tryz.prog 1 9 r9_ := fall (.inr ⟨_, _, _, e144⟩) (.inr ⟨_, _, _, e145⟩) (.inr ⟨_, _, _, e146⟩) (.inr ⟨_, _, _, e147⟩) (.inl rfl) (.inl rfl) (.inl rfl) (.inl rfl) (.inl rfl) (.inl rfl) (.inl rfl) (.inr ⟨_, _, _, e155⟩) (.inr ⟨_, _, _, e156⟩) (.inl rfl) (.inl rfl) (.inl rfl)
noncomputable def r10_ : N16 SF := .mk .bad .bad .bad .bad s164 s165 .bad .bad .bad .bad .bad s171 s172 .bad s174 s175
theorem r10ok : RowOK Tryz.prog 1 10 r10_ := fall (.inl rfl) (.inl rfl) (.inl rfl) (.inl rfl) (.inr ⟨_, _, _, e164⟩) (.inr ⟨_, _, _, e165⟩) (.inl rfl) (.inl rfl) (.inl rfl) (.inl rfl) (.inl rfl) (.inr ⟨_, _, _, e171⟩) (.inr ⟨_, _, _, e172⟩) (.inl rfl) (.inr ⟨_, _, _, e174⟩) (.inr ⟨_, _, _, e175⟩)
noncomputable def r11_ : N16 SF := .mk s176 s177 s178 .bad s180 .bad .bad .bad s184 s185 s186 .bad .bad s189 .bad .bad
theorem r11ok : RowOK Tryz.prog 1 11 r11_ := fall (.inr ⟨_, _, _, e176⟩) (.inr ⟨_, _, _, e177⟩) (.inr ⟨_, _, _, e178⟩) (.inl rfl) (.inr ⟨_, _, _, e180⟩) (.inl rfl) (.inl rfl) (.inl rfl) (.inr ⟨_, _, _, e184⟩) (.inr ⟨_, _, _, e185⟩) (.inr ⟨_, _, _, e186⟩) (.inl rfl) (.inl rfl) (.inr ⟨_, _, _, e189⟩) (.inl rfl) (.inl rfl)
noncomputable def r12_ : N16 SF := .mk .bad s193 .bad s195 s196 s197 s198 s199 s200 s201 s202 s203 s204 s205 s206 s207
theorem r12ok : RowOK Tryz.prog 1 12 r12_ := fall (.inl rfl) (.inr ⟨_, _, _, e193⟩) (.inl rfl) (.inr ⟨_, _, _, e195⟩) (.inr ⟨_, _, _, e196⟩) (.inr ⟨_, _, _, e197⟩) (.inr ⟨_, _, _, e198⟩) (.inr ⟨_, _, _, e199⟩) (.inr ⟨_, _, _, e200⟩) (.inr ⟨_, _, _, e201⟩) (.inr ⟨_, _, _, e202⟩) (.inr ⟨_, _, _, e203⟩) (.inr ⟨_, _, _, e204⟩) (.inr ⟨_, _, _, e205⟩) (.inr ⟨_, _, _, e206⟩) (.inr ⟨_, _, _, e207⟩)
noncomputable def r13_ : N16 SF := .mk s208 s209 .bad .bad s212 .bad s214 s215 .bad .bad .bad .bad .bad .bad .bad .bad
theorem r13ok : RowOK Tryz.prog 1 13 r13_ := fall (.inr ⟨_, _, _, e208⟩) (.inr ⟨_, _, _, e209⟩) (.inl rfl) (.inl rfl) (.inr ⟨_, _, _, e212⟩) (.inl rfl) (.inr ⟨_, _, _, e214⟩) (.inr ⟨_, _, _, e215⟩) (.inl rfl) (.inl rfl) (.inl rfl) (.inl rfl) (.inl rfl) (.inl rfl) (.inl rfl) (.inl rfl)
noncomputable def r14_ : N16 SF := .mk .bad .bad s226 .bad .bad .bad .bad .bad .bad .bad s234 s235 s236 .bad .bad .bad
theorem r14ok : RowOK Tryz.prog 1 14 r14_ := fall (.inl rfl) (.inl rfl) (.inr ⟨_, _, _, e226⟩) (.inl rfl) (.inl rfl) (.inl rfl) (.inl rfl) (.inl rfl) (.inl rfl) (.inl rfl) (.inr ⟨_, _, _, e234⟩) (.inr ⟨_, _, _, e235⟩) (.inr ⟨_, _, _, e236⟩) (.inl rfl) (.inl rfl) (.inl rfl)
noncomputable def r15_ : N16 SF := .mk .bad .bad s242 s243 s244 s245 s246 s247 s248 s249 s250 s251 s252 s253 .bad .bad
theorem r15ok : RowOK Tryz.prog 1 15 r15_ := fall (.inl rfl) (.inl rfl) (.inr ⟨_, _, _, e242⟩) (.inr ⟨_, _, _, e243⟩) (.inr ⟨_, _, _, e244⟩) (.inr ⟨_, _, _, e245⟩) (.inr ⟨_, _, _, e246⟩) (.inr ⟨_, _, _, e247⟩) (.inr ⟨_, _, _, e248⟩) (.inr ⟨_, _, _, e249⟩) (.inr ⟨_, _, _, e250⟩) (.inr ⟨_, _, _, e251⟩) (.inr ⟨_, _, _, e252⟩) (.inr ⟨_, _, _, e253⟩) (.inl rfl) (.inl rfl)
noncomputable def r16_ : N16 SF := .mk .bad .bad .bad .bad .bad .bad .bad .bad .bad .bad s266 s267 s268 s269 s270 s271
theorem r16ok : RowOK Tryz.prog 1 16 r16_ := fall (.inl rfl) (.inl rfl) (.inl rfl) (.inl rfl) (.inl rfl) (.inl rfl) (.inl rfl) (.inl rfl) (.inl rfl) (.inl rfl) (.inr ⟨_, _, _, e266⟩) (.inr ⟨_, _, _, e267⟩) (.inr ⟨_, _, _, e268⟩) (.inr ⟨_, _, _, e269⟩) (.inr ⟨_, _, _, e270⟩) (.inr ⟨_, _, _, e271⟩)
noncomputable def r17_ : N16 SF := .mk .bad s273 .bad .bad .bad .bad .bad .bad .bad .bad .bad s283 .bad .bad .bad .bad
theorem r17ok : RowOK Tryz.prog 1 17 r17_ := fall (.inl rfl) (.inr ⟨_, _, _, e273⟩) (.inl rfl) (.inl rfl) (.inl rfl) (.inl rfl) (.inl rfl) (.inl rfl) (.inl rfl) (.inl rfl) (.inl rfl) (.inr ⟨_, _, _, e283⟩) (.inl rfl) (.inl rfl) (.inl rfl) (.inl rfl)
noncomputable def r19_ : N16 SF := .mk .bad .bad .bad .bad .bad .bad .bad .bad .bad .bad .bad .bad .bad .bad .bad s319
theorem r19ok : RowOK Tryz.prog 1 19 r19_ := fall (.inl rfl) (.inl rfl) (.inl rfl) (.inl rfl) (.inl rfl) (.inl rfl) (.inl rfl) (.inl rfl) (.inl rfl) (.inl rfl) (.inl rfl) (.inl rfl) (.inl rfl) (.inl rfl) (.inl rfl) (.inr ⟨_, _, _, e319⟩)
noncomputable def r20_ : N16 SF := .mk .bad s321 .bad .bad .bad .bad .bad .bad .bad .bad .bad .bad .bad .bad .bad .bad
theorem r20ok : RowOK Tryz.prog 1 20 r20_ := fall (.inl rfl) (.inr ⟨_, _, _, e321⟩) (.inl rfl) (.inl rfl) (.inl rfl) (.inl rfl) (.inl rfl) (.inl rfl) (.inl rfl) (.inl rfl) (.inl rfl) (.inl rfl) (.inl rfl) (.inl rfl) (.inl rfl) (.inl rfl)
noncomputable def b0_ : N16 (N16 SF) := .mk r0_ r1_ r2_ r3_ r4_ r5_ r6_ r7_ r8_ r9_ r10_ r11_ r12_ r13_ r14_ r15_
theorem b0ok : BlkOK Tryz.prog 1 0 b0_ := fall r0ok r1ok r2ok r3ok r4ok r5ok r6ok r7ok r8ok r9ok r10ok r11ok r12ok r13ok r14ok r15ok
noncomputable def b1_ : N16 (N16 SF) := .mk r16_ r17_ noRow r19_ r20_ noRow noRow noRow noRow noRow noRow noRow noRow noRow noRow noRow
theorem b1ok : BlkOK Tryz.prog 1 1 b1_ := fall r16ok r17ok noRow_ok r19ok r20ok noRow_ok noRow_ok noRow_ok noRow_ok noRow_ok noRow_ok noRow_ok noRow_ok noRow_ok noRow_ok noRow_ok
noncomputable def tab : Tab := .mk b0_ b1_ noBlk noBlk noBlk noBlk noBlk noBlk noBlk noBlk noBlk noBlk noBlk noBlk noBlk noBlk
theorem tabOK : TfOK Tryz.prog 1 (look3 tab) := tab_ok (fall b0ok b1ok noBlk_ok noBlk_ok noBlk_ok noBlk_ok noBlk_ok noBlk_ok noBlk_ok noBlk_ok noBlk_ok noBlk_ok noBlk_ok noBlk_ok noBlk_ok noBlk_ok)
end Go.Proofs.YtnlinpocnopibaaGreatDoor
