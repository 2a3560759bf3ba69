/-
  The program's functions as plain ones: the table.
-/
import Derived.Test.YtnlinpocnopibaaGreatDoorSh0
import Derived.Test.YtnlinpocnopibaaGreatDoorSh1
import Derived.Test.YtnlinpocnopibaaGreatDoorSh2
namespace Go.Proofs.YtnlinpocnopibaaGreatDoor
open Go Go.Eva Go.Fv Go.Fw
noncomputable def r0_ : N16 SF := .mk .bad .bad .bad s3 s4 s5 s6 .bad s8 s9 s10 s11 s12 s13 s14 s15
theorem r0ok : RowOK Tryz.prog 1 0 r0_ := fall (.inl rfl) (.inl rfl) (.inl rfl) (.inr ⟨_, _, _, e3⟩) (.inr ⟨_, _, _, e4⟩) (.inr ⟨_, _, _, e5⟩) (.inr ⟨_, _, _, e6⟩) (.inl rfl) (.inr ⟨_, _, _, e8⟩) (.inr ⟨_, _, _, e9⟩) (.inr ⟨_, _, _, e10⟩) (.inr ⟨_, _, _, e11⟩) (.inr ⟨_, _, _, e12⟩) (.inr ⟨_, _, _, e13⟩) (.inr ⟨_, _, _, e14⟩) (.inr ⟨_, _, _, e15⟩)
noncomputable def r1_ : N16 SF := .mk s16 s17 s18 s19 s20 .bad .bad .bad s24 s25 .bad .bad .bad .bad .bad .bad
theorem r1ok : RowOK Tryz.prog 1 1 r1_ := fall (.inr ⟨_, _, _, e16⟩) (.inr ⟨_, _, _, e17⟩) (.inr ⟨_, _, _, e18⟩) (.inr ⟨_, _, _, e19⟩) (.inr ⟨_, _, _, e20⟩) (.inl rfl) (.inl rfl) (.inl rfl) (.inr ⟨_, _, _, e24⟩) (.inr ⟨_, _, _, e25⟩) (.inl rfl) (.inl rfl) (.inl rfl) (.inl rfl) (.inl rfl) (.inl rfl)
noncomputable def r2_ : N16 SF := .mk s32 s33 s34 s35 s36 s37 s38 s39 s40 s41 s42 s43 s44 s45 s46 s47
theorem r2ok : RowOK Tryz.prog 1 2 r2_ := fall (.inr ⟨_, _, _, e32⟩) (.inr ⟨_, _, _, e33⟩) (.inr ⟨_, _, _, e34⟩) (.inr ⟨_, _, _, e35⟩) (.inr ⟨_, _, _, e36⟩) (.inr ⟨_, _, _, e37⟩) (.inr ⟨_, _, _, e38⟩) (.inr ⟨_, _, _, e39⟩) (.inr ⟨_, _, _, e40⟩) (.inr ⟨_, _, _, e41⟩) (.inr ⟨_, _, _, e42⟩) (.inr ⟨_, _, _, e43⟩) (.inr ⟨_, _, _, e44⟩) (.inr ⟨_, _, _, e45⟩) (.inr ⟨_, _, _, e46⟩) (.inr ⟨_, _, _, e47⟩)
noncomputable def r3_ : N16 SF := .mk s48 s49 s50 s51 .bad .bad s54 s55 s56 s57 s58 .bad .bad .bad s62 .bad
theorem r3ok : RowOK Tryz.prog 1 3 r3_ := fall (.inr ⟨_, _, _, e48⟩) (.inr ⟨_, _, _, e49⟩) (.inr ⟨_, _, _, e50⟩) (.inr ⟨_, _, _, e51⟩) (.inl rfl) (.inl rfl) (.inr ⟨_, _, _, e54⟩) (.inr ⟨_, _, _, e55⟩) (.inr ⟨_, _, _, e56⟩) (.inr ⟨_, _, _, e57⟩) (.inr ⟨_, _, _, e58⟩) (.inl rfl) (.inl rfl) (.inl rfl) (.inr ⟨_, _, _, e62⟩) (.inl rfl)
noncomputable def r4_ : N16 SF := .mk .bad s65 s66 s67 s68 s69 s70 s71 s72 s73 s74 s75 s76 s77 s78 s79
theorem r4ok : RowOK Tryz.prog 1 4 r4_ := fall (.inl rfl) (.inr ⟨_, _, _, e65⟩) (.inr ⟨_, _, _, e66⟩) (.inr ⟨_, _, _, e67⟩) (.inr ⟨_, _, _, e68⟩) (.inr ⟨_, _, _, e69⟩) (.inr ⟨_, _, _, e70⟩) (.inr ⟨_, _, _, e71⟩) (.inr ⟨_, _, _, e72⟩) (.inr ⟨_, _, _, e73⟩) (.inr ⟨_, _, _, e74⟩) (.inr ⟨_, _, _, e75⟩) (.inr ⟨_, _, _, e76⟩) (.inr ⟨_, _, _, e77⟩) (.inr ⟨_, _, _, e78⟩) (.inr ⟨_, _, _, e79⟩)
noncomputable def r5_ : N16 SF := .mk s80 s81 s82 s83 s84 s85 s86 s87 s88 s89 s90 s91 s92 s93 s94 .bad
theorem r5ok : RowOK Tryz.prog 1 5 r5_ := fall (.inr ⟨_, _, _, e80⟩) (.inr ⟨_, _, _, e81⟩) (.inr ⟨_, _, _, e82⟩) (.inr ⟨_, _, _, e83⟩) (.inr ⟨_, _, _, e84⟩) (.inr ⟨_, _, _, e85⟩) (.inr ⟨_, _, _, e86⟩) (.inr ⟨_, _, _, e87⟩) (.inr ⟨_, _, _, e88⟩) (.inr ⟨_, _, _, e89⟩) (.inr ⟨_, _, _, e90⟩) (.inr ⟨_, _, _, e91⟩) (.inr ⟨_, _, _, e92⟩) (.inr ⟨_, _, _, e93⟩) (.inr ⟨_, _, _, e94⟩) (.inl rfl)
noncomputable def r7_ : N16 SF := .mk .bad .bad .bad .bad s116 .bad s118 s119 s120 .bad .bad .bad s124 s125 .bad .bad
theorem r7ok : RowOK Tryz.prog 1 7 r7_ := fall (.inl rfl) (.inl rfl) (.inl rfl) (.inl rfl) (.inr ⟨_, _, _, e116⟩) (.inl rfl) (.inr ⟨_, _, _, e118⟩) (.inr ⟨_, _, _, e119⟩) (.inr ⟨_, _, _, e120⟩) (.inl rfl) (.inl rfl) (.inl rfl) (.inr ⟨_, _, _, e124⟩) (.inr ⟨_, _, _, e125⟩) (.inl rfl) (.inl rfl)
noncomputable def r8_ : N16 SF := .mk .bad s129 s130 s131 s132 s133 s134 s135 s136 s137 s138 s139 s140 s141 s142 s143
theorem r8ok : RowOK Tryz.prog 1 8 r8_ := fall (.inl rfl) (.inr ⟨_, _, _, e129⟩) (.inr ⟨_, _, _, e130⟩) (.inr ⟨_, _, _, e131⟩) (.inr ⟨_, _, _, e132⟩) (.inr ⟨_, _, _, e133⟩) (.inr ⟨_, _, _, e134⟩) (.inr ⟨_, _, _, e135⟩) (.inr ⟨_, _, _, e136⟩) (.inr ⟨_, _, _, e137⟩) (.inr ⟨_, _, _, e138⟩) (.inr ⟨_, _, _, e139⟩) (.inr ⟨_, _, _, e140⟩) (.inr ⟨_, _, _, e141⟩) (.inr ⟨_, _, _, e142⟩) (.inr ⟨_, _, _, e143⟩)
noncomputable def r9_ : N16 SF := .mk s144 s145 s146 s147 s148 s149 s150 s151 .bad .bad s154 s155 s156 s157 s158 s159
theorem r9ok : RowOK Tryz.prog 1 9 r9_ := fall (.inr ⟨_, _, _, e144⟩) (.inr ⟨_, _, _, e145⟩) (.inr ⟨_, _, _, e146⟩) (.inr ⟨_, _, _, e147⟩) (.inr ⟨_, _, _, e148⟩) (.inr ⟨_, _, _, e149⟩) (.inr ⟨_, _, _, e150⟩) (.inr ⟨_, _, _, e151⟩) (.inl rfl) (.inl rfl) (.inr ⟨_, _, _, e154⟩) (.inr ⟨_, _, _, e155⟩) (.inr ⟨_, _, _, e156⟩) (.inr ⟨_, _, _, e157⟩) (.inr ⟨_, _, _, e158⟩) (.inr ⟨_, _, _, e159⟩)
noncomputable def r10_ : N16 SF := .mk s160 s161 s162 s163 .bad .bad .bad .bad .bad .bad .bad .bad s172 .bad s174 s175
theorem r10ok : RowOK Tryz.prog 1 10 r10_ := fall (.inr ⟨_, _, _, e160⟩) (.inr ⟨_, _, _, e161⟩) (.inr ⟨_, _, _, e162⟩) (.inr ⟨_, _, _, e163⟩) (.inl rfl) (.inl rfl) (.inl rfl) (.inl rfl) (.inl rfl) (.inl rfl) (.inl rfl) (.inl rfl) (.inr ⟨_, _, _, e172⟩) (.inl rfl) (.inr ⟨_, _, _, e174⟩) (.inr ⟨_, _, _, e175⟩)
noncomputable def r11_ : N16 SF := .mk s176 s177 s178 .bad s180 .bad .bad .bad s184 s185 s186 .bad .bad s189 s190 s191
theorem r11ok : RowOK Tryz.prog 1 11 r11_ := fall (.inr ⟨_, _, _, e176⟩) (.inr ⟨_, _, _, e177⟩) (.inr ⟨_, _, _, e178⟩) (.inl rfl) (.inr ⟨_, _, _, e180⟩) (.inl rfl) (.inl rfl) (.inl rfl) (.inr ⟨_, _, _, e184⟩) (.inr ⟨_, _, _, e185⟩) (.inr ⟨_, _, _, e186⟩) (.inl rfl) (.inl rfl) (.inr ⟨_, _, _, e189⟩) (.inr ⟨_, _, _, e190⟩) (.inr ⟨_, _, _, e191⟩)
noncomputable def r12_ : N16 SF := .mk s192 s193 s194 s195 s196 s197 s198 s199 s200 s201 s202 s203 s204 s205 s206 s207
theorem r12ok : RowOK Tryz.prog 1 12 r12_ := fall (.inr ⟨_, _, _, e192⟩) (.inr ⟨_, _, _, e193⟩) (.inr ⟨_, _, _, e194⟩) (.inr ⟨_, _, _, e195⟩) (.inr ⟨_, _, _, e196⟩) (.inr ⟨_, _, _, e197⟩) (.inr ⟨_, _, _, e198⟩) (.inr ⟨_, _, _, e199⟩) (.inr ⟨_, _, _, e200⟩) (.inr ⟨_, _, _, e201⟩) (.inr ⟨_, _, _, e202⟩) (.inr ⟨_, _, _, e203⟩) (.inr ⟨_, _, _, e204⟩) (.inr ⟨_, _, _, e205⟩) (.inr ⟨_, _, _, e206⟩) (.inr ⟨_, _, _, e207⟩)
noncomputable def r13_ : N16 SF := .mk s208 s209 s210 s211 s212 .bad s214 s215 .bad s217 s218 s219 s220 s221 s222 s223
theorem r13ok : RowOK Tryz.prog 1 13 r13_ := fall (.inr ⟨_, _, _, e208⟩) (.inr ⟨_, _, _, e209⟩) (.inr ⟨_, _, _, e210⟩) (.inr ⟨_, _, _, e211⟩) (.inr ⟨_, _, _, e212⟩) (.inl rfl) (.inr ⟨_, _, _, e214⟩) (.inr ⟨_, _, _, e215⟩) (.inl rfl) (.inr ⟨_, _, _, e217⟩) (.inr ⟨_, _, _, e218⟩) (.inr ⟨_, _, _, e219⟩) (.inr ⟨_, _, _, e220⟩) (.inr ⟨_, _, _, e221⟩) (.inr ⟨_, _, _, e222⟩) (.inr ⟨_, _, _, e223⟩)
noncomputable def r14_ : N16 SF := .mk s224 .bad .bad .bad .bad .bad .bad .bad .bad .bad s234 s235 s236 .bad .bad .bad
theorem r14ok : RowOK Tryz.prog 1 14 r14_ := fall (.inr ⟨_, _, _, e224⟩) (.inl rfl) (.inl rfl) (.inl rfl) (.inl rfl) (.inl rfl) (.inl rfl) (.inl rfl) (.inl rfl) (.inl rfl) (.inr ⟨_, _, _, e234⟩) (.inr ⟨_, _, _, e235⟩) (.inr ⟨_, _, _, e236⟩) (.inl rfl) (.inl rfl) (.inl rfl)
noncomputable def r15_ : N16 SF := .mk .bad s241 s242 s243 s244 s245 s246 s247 s248 s249 s250 s251 s252 s253 s254 s255
theorem r15ok : RowOK Tryz.prog 1 15 r15_ := fall (.inl rfl) (.inr ⟨_, _, _, e241⟩) (.inr ⟨_, _, _, e242⟩) (.inr ⟨_, _, _, e243⟩) (.inr ⟨_, _, _, e244⟩) (.inr ⟨_, _, _, e245⟩) (.inr ⟨_, _, _, e246⟩) (.inr ⟨_, _, _, e247⟩) (.inr ⟨_, _, _, e248⟩) (.inr ⟨_, _, _, e249⟩) (.inr ⟨_, _, _, e250⟩) (.inr ⟨_, _, _, e251⟩) (.inr ⟨_, _, _, e252⟩) (.inr ⟨_, _, _, e253⟩) (.inr ⟨_, _, _, e254⟩) (.inr ⟨_, _, _, e255⟩)
noncomputable def r16_ : N16 SF := .mk s256 s257 s258 s259 .bad .bad .bad .bad s264 s265 s266 s267 s268 s269 s270 s271
theorem r16ok : RowOK Tryz.prog 1 16 r16_ := fall (.inr ⟨_, _, _, e256⟩) (.inr ⟨_, _, _, e257⟩) (.inr ⟨_, _, _, e258⟩) (.inr ⟨_, _, _, e259⟩) (.inl rfl) (.inl rfl) (.inl rfl) (.inl rfl) (.inr ⟨_, _, _, e264⟩) (.inr ⟨_, _, _, e265⟩) (.inr ⟨_, _, _, e266⟩) (.inr ⟨_, _, _, e267⟩) (.inr ⟨_, _, _, e268⟩) (.inr ⟨_, _, _, e269⟩) (.inr ⟨_, _, _, e270⟩) (.inr ⟨_, _, _, e271⟩)
noncomputable def r17_ : N16 SF := .mk s272 s273 .bad .bad .bad .bad .bad .bad .bad .bad .bad s283 .bad .bad .bad .bad
theorem r17ok : RowOK Tryz.prog 1 17 r17_ := fall (.inr ⟨_, _, _, e272⟩) (.inr ⟨_, _, _, e273⟩) (.inl rfl) (.inl rfl) (.inl rfl) (.inl rfl) (.inl rfl) (.inl rfl) (.inl rfl) (.inl rfl) (.inl rfl) (.inr ⟨_, _, _, e283⟩) (.inl rfl) (.inl rfl) (.inl rfl) (.inl rfl)
noncomputable def r19_ : N16 SF := .mk .bad .bad .bad .bad .bad .bad .bad .bad .bad .bad .bad .bad .bad .bad .bad s319
theorem r19ok : RowOK Tryz.prog 1 19 r19_ := fall (.inl rfl) (.inl rfl) (.inl rfl) (.inl rfl) (.inl rfl) (.inl rfl) (.inl rfl) (.inl rfl) (.inl rfl) (.inl rfl) (.inl rfl) (.inl rfl) (.inl rfl) (.inl rfl) (.inl rfl) (.inr ⟨_, _, _, e319⟩)
noncomputable def r20_ : N16 SF := .mk .bad s321 .bad s323 s324 .bad s326 s327 .bad s329 .bad s331 s332 s333 s334 .bad
theorem r20ok : RowOK Tryz.prog 1 20 r20_ := fall (.inl rfl) (.inr ⟨_, _, _, e321⟩) (.inl rfl) (.inr ⟨_, _, _, e323⟩) (.inr ⟨_, _, _, e324⟩) (.inl rfl) (.inr ⟨_, _, _, e326⟩) (.inr ⟨_, _, _, e327⟩) (.inl rfl) (.inr ⟨_, _, _, e329⟩) (.inl rfl) (.inr ⟨_, _, _, e331⟩) (.inr ⟨_, _, _, e332⟩) (.inr ⟨_, _, _, e333⟩) (.inr ⟨_, _, _, e334⟩) (.inl rfl)
noncomputable def b0_ : N16 (N16 SF) := .mk r0_ r1_ r2_ r3_ r4_ r5_ noRow r7_ r8_ r9_ r10_ r11_ r12_ r13_ r14_ r15_
theorem b0ok : BlkOK Tryz.prog 1 0 b0_ := fall r0ok r1ok r2ok r3ok r4ok r5ok noRow_ok r7ok r8ok r9ok r10ok r11ok r12ok r13ok r14ok r15ok
noncomputable def b1_ : N16 (N16 SF) := .mk r16_ r17_ noRow r19_ r20_ noRow noRow noRow noRow noRow noRow noRow noRow noRow noRow noRow
theorem b1ok : BlkOK Tryz.prog 1 1 b1_ := fall r16ok r17ok noRow_ok r19ok r20ok noRow_ok noRow_ok noRow_ok noRow_ok noRow_ok noRow_ok noRow_ok noRow_ok noRow_ok noRow_ok noRow_ok
noncomputable def tab : Tab := .mk b0_ b1_ noBlk noBlk noBlk noBlk noBlk noBlk noBlk noBlk noBlk noBlk noBlk noBlk noBlk noBlk
theorem tabOK : TfOK Tryz.prog 1 (look3 tab) := tab_ok (fall b0ok b1ok noBlk_ok noBlk_ok noBlk_ok noBlk_ok noBlk_ok noBlk_ok noBlk_ok noBlk_ok noBlk_ok noBlk_ok noBlk_ok noBlk_ok noBlk_ok noBlk_ok)
end Go.Proofs.YtnlinpocnopibaaGreatDoor
