/-
  The program's functions as plain ones: the table.
-/
import Derived.Test.YtogmgjcdicnceaaGreatDoorSh0
import Derived.Test.YtogmgjcdicnceaaGreatDoorSh1
namespace Go.Proofs.YtogmgjcdicnceaaGreatDoor
open Go Go.Eva Go.Fv Go.Fw
noncomputable def r0_ : N16 SF := .mk .bad .bad .bad .bad s4 .bad .bad s7 s8 .bad .bad .bad .bad .bad s14 s15
theorem r0ok : RowOK Tryz.prog 1 0 r0_ := fall (.inl rfl) (.inl rfl) (.inl rfl) (.inl rfl) (.inr ⟨_, _, _, e4⟩) (.inl rfl) (.inl rfl) (.inr ⟨_, _, _, e7⟩) (.inr ⟨_, _, _, e8⟩) (.inl rfl) (.inl rfl) (.inl rfl) (.inl rfl) (.inl rfl) (.inr ⟨_, _, _, e14⟩) (.inr ⟨_, _, _, e15⟩)
noncomputable def r1_ : N16 SF := .mk s16 s17 s18 .bad .bad .bad .bad s23 .bad .bad .bad s27 s28 s29 s30 s31
theorem r1ok : RowOK Tryz.prog 1 1 r1_ := fall (.inr ⟨_, _, _, e16⟩) (.inr ⟨_, _, _, e17⟩) (.inr ⟨_, _, _, e18⟩) (.inl rfl) (.inl rfl) (.inl rfl) (.inl rfl) (.inr ⟨_, _, _, e23⟩) (.inl rfl) (.inl rfl) (.inl rfl) (.inr ⟨_, _, _, e27⟩) (.inr ⟨_, _, _, e28⟩) (.inr ⟨_, _, _, e29⟩) (.inr ⟨_, _, _, e30⟩) (.inr ⟨_, _, _, e31⟩)
noncomputable def r2_ : N16 SF := .mk .bad .bad .bad .bad .bad .bad s38 s39 s40 s41 s42 s43 .bad .bad .bad .bad
theorem r2ok : RowOK Tryz.prog 1 2 r2_ := fall (.inl rfl) (.inl rfl) (.inl rfl) (.inl rfl) (.inl rfl) (.inl rfl) (.inr ⟨_, _, _, e38⟩) (.inr ⟨_, _, _, e39⟩) (.inr ⟨_, _, _, e40⟩) (.inr ⟨_, _, _, e41⟩) (.inr ⟨_, _, _, e42⟩) (.inr ⟨_, _, _, e43⟩) (.inl rfl) (.inl rfl) (.inl rfl) (.inl rfl)
noncomputable def r3_ : N16 SF := .mk s48 .bad .bad s51 .bad .bad .bad .bad s56 s57 s58 s59 s60 s61 s62 .bad
theorem r3ok : RowOK Tryz.prog 1 3 r3_ := fall (.inr ⟨_, _, _, e48⟩) (.inl rfl) (.inl rfl) (.inr ⟨_, _, _, e51⟩) (.inl rfl) (.inl rfl) (.inl rfl) (.inl rfl) (.inr ⟨_, _, _, e56⟩) (.inr ⟨_, _, _, e57⟩) (.inr ⟨_, _, _, e58⟩) (.inr ⟨_, _, _, e59⟩) (.inr ⟨_, _, _, e60⟩) (.inr ⟨_, _, _, e61⟩) (.inr ⟨_, _, _, e62⟩) (.inl rfl)
noncomputable def r4_ : N16 SF := .mk .bad .bad .bad .bad s68 s69 s70 s71 .bad .bad .bad .bad .bad .bad .bad .bad
theorem r4ok : RowOK Tryz.prog 1 4 r4_ := fall (.inl rfl) (.inl rfl) (.inl rfl) (.inl rfl) (.inr ⟨_, _, _, e68⟩) (.inr ⟨_, _, _, e69⟩) (.inr ⟨_, _, _, e70⟩) (.inr ⟨_, _, _, e71⟩) (.inl rfl) (.inl rfl) (.inl rfl) (.inl rfl) (.inl rfl) (.inl rfl) (.inl rfl) (.inl rfl)
noncomputable def r5_ : N16 SF := .mk .bad .bad .bad s83 s84 s85 .bad s87 s88 s89 s90 s91 s92 .bad .bad .bad
theorem r5ok : RowOK Tryz.prog 1 5 r5_ := fall (.inl rfl) (.inl rfl) (.inl rfl) (.inr ⟨_, _, _, e83⟩) (.inr ⟨_, _, _, e84⟩) (.inr ⟨_, _, _, e85⟩) (.inl rfl) (.inr ⟨_, _, _, e87⟩) (.inr ⟨_, _, _, e88⟩) (.inr ⟨_, _, _, e89⟩) (.inr ⟨_, _, _, e90⟩) (.inr ⟨_, _, _, e91⟩) (.inr ⟨_, _, _, e92⟩) (.inl rfl) (.inl rfl) (.inl rfl)
noncomputable def r6_ : N16 SF := .mk .bad .bad .bad .bad .bad .bad .bad .bad s104 .bad s106 .bad .bad .bad .bad .bad
theorem r6ok : RowOK Tryz.prog 1 6 r6_ := fall (.inl rfl) (.inl rfl) (.inl rfl) (.inl rfl) (.inl rfl) (.inl rfl) (.inl rfl) (.inl rfl) (.inr ⟨_, _, _, e104⟩) (.inl rfl) (.inr ⟨_, _, _, e106⟩) (.inl rfl) (.inl rfl) (.inl rfl) (.inl rfl) (.inl rfl)
noncomputable def r7_ : N16 SF := .mk .bad .bad s114 s115 .bad .bad .bad .bad .bad s121 .bad .bad s124 s125 .bad .bad
theorem r7ok : RowOK Tryz.prog 1 7 r7_ := fall (.inl rfl) (.inl rfl) (.inr ⟨_, _, _, e114⟩) (.inr ⟨_, _, _, e115⟩) (.inl rfl) (.inl rfl) (.inl rfl) (.inl rfl) (.inl rfl) (.inr ⟨_, _, _, e121⟩) (.inl rfl) (.inl rfl) (.inr ⟨_, _, _, e124⟩) (.inr ⟨_, _, _, e125⟩) (.inl rfl) (.inl rfl)
noncomputable def r8_ : N16 SF := .mk s128 s129 .bad .bad .bad s133 s134 .bad .bad .bad .bad .bad .bad .bad .bad s143
theorem r8ok : RowOK Tryz.prog 1 8 r8_ := fall (.inr ⟨_, _, _, e128⟩) (.inr ⟨_, _, _, e129⟩) (.inl rfl) (.inl rfl) (.inl rfl) (.inr ⟨_, _, _, e133⟩) (.inr ⟨_, _, _, e134⟩) (.inl rfl) (.inl rfl) (.inl rfl) (.inl rfl) (.inl rfl) (.inl rfl) (.inl rfl) (.inl rfl) (.inr ⟨_, _, _, e143⟩)
noncomputable def r9_ : N16 SF := .mk s144 s145 s146 s147 s148 .bad .bad .bad .bad .bad .bad .bad s156 .bad .bad .bad
theorem r9ok : RowOK Tryz.prog 1 9 r9_ := fall (.inr ⟨_, _, _, e144⟩) (.inr ⟨_, _, _, e145⟩) (.inr ⟨_, _, _, e146⟩) (.inr ⟨_, _, _, e147⟩) (.inr ⟨_, _, _, e148⟩) (.inl rfl) (.inl rfl) (.inl rfl) (.inl rfl) (.inl rfl) (.inl rfl) (.inl rfl) (.inr ⟨_, _, _, e156⟩) (.inl rfl) (.inl rfl) (.inl rfl)
noncomputable def r10_ : N16 SF := .mk s160 s161 s162 .bad .bad .bad .bad .bad .bad .bad .bad .bad .bad .bad .bad .bad
theorem r10ok : RowOK Tryz.prog 1 10 r10_ := fall (.inr ⟨_, _, _, e160⟩) (.inr ⟨_, _, _, e161⟩) (.inr ⟨_, _, _, e162⟩) (.inl rfl) (.inl rfl) (.inl rfl) (.inl rfl) (.inl rfl) (.inl rfl) (.inl rfl) (.inl rfl) (.inl rfl) (.inl rfl) (.inl rfl) (.inl rfl) (.inl rfl)
noncomputable def r11_ : N16 SF := .mk .bad .bad .bad .bad .bad s181 s182 s183 s184 s185 s186 s187 s188 .bad s190 s191
theorem r11ok : RowOK Tryz.prog 1 11 r11_ := fall (.inl rfl) (.inl rfl) (.inl rfl) (.inl rfl) (.inl rfl) (.inr ⟨_, _, _, e181⟩) (.inr ⟨_, _, _, e182⟩) (.inr ⟨_, _, _, e183⟩) (.inr ⟨_, _, _, e184⟩) (.inr ⟨_, _, _, e185⟩) (.inr ⟨_, _, _, e186⟩) (.inr ⟨_, _, _, e187⟩) (.inr ⟨_, _, _, e188⟩) (.inl rfl) (.inr ⟨_, _, _, e190⟩) (.inr ⟨_, _, _, e191⟩)
noncomputable def r12_ : N16 SF := .mk .bad .bad .bad .bad .bad .bad .bad .bad .bad .bad .bad .bad s204 .bad .bad .bad
theorem r12ok : RowOK Tryz.prog 1 12 r12_ := fall (.inl rfl) (.inl rfl) (.inl rfl) (.inl rfl) (.inl rfl) (.inl rfl) (.inl rfl) (.inl rfl) (.inl rfl) (.inl rfl) (.inl rfl) (.inl rfl) (.inr ⟨_, _, _, e204⟩) (.inl rfl) (.inl rfl) (.inl rfl)
noncomputable def r13_ : N16 SF := .mk .bad .bad s210 .bad .bad .bad .bad .bad .bad .bad .bad .bad .bad .bad .bad .bad
theorem r13ok : RowOK Tryz.prog 1 13 r13_ := fall (.inl rfl) (.inl rfl) (.inr ⟨_, _, _, e210⟩) (.inl rfl) (.inl rfl) (.inl rfl) (.inl rfl) (.inl rfl) (.inl rfl) (.inl rfl) (.inl rfl) (.inl rfl) (.inl rfl) (.inl rfl) (.inl rfl) (.inl rfl)
noncomputable def r14_ : N16 SF := .mk .bad .bad s226 s227 s228 s229 .bad .bad .bad .bad .bad .bad .bad .bad .bad .bad
theorem r14ok : RowOK Tryz.prog 1 14 r14_ := fall (.inl rfl) (.inl rfl) (.inr ⟨_, _, _, e226⟩) (.inr ⟨_, _, _, e227⟩) (.inr ⟨_, _, _, e228⟩) (.inr ⟨_, _, _, e229⟩) (.inl rfl) (.inl rfl) (.inl rfl) (.inl rfl) (.inl rfl) (.inl rfl) (.inl rfl) (.inl rfl) (.inl rfl) (.inl rfl)
noncomputable def b0_ : N16 (N16 SF) := .mk r0_ r1_ r2_ r3_ r4_ r5_ r6_ r7_ r8_ r9_ r10_ r11_ r12_ r13_ r14_ noRow
theorem b0ok : BlkOK Tryz.prog 1 0 b0_ := fall r0ok r1ok r2ok r3ok r4ok r5ok r6ok r7ok r8ok r9ok r10ok r11ok r12ok r13ok r14ok noRow_ok
noncomputable def b1_ : N16 (N16 SF) := .mk noRow noRow noRow noRow noRow noRow noRow noRow noRow noRow noRow noRow noRow noRow noRow noRow
theorem b1ok : BlkOK Tryz.prog 1 1 b1_ := fall noRow_ok noRow_ok noRow_ok noRow_ok noRow_ok noRow_ok noRow_ok noRow_ok noRow_ok noRow_ok noRow_ok noRow_ok noRow_ok noRow_ok noRow_ok noRow_ok
noncomputable def tab : Tab := .mk b0_ b1_ noBlk noBlk noBlk noBlk noBlk noBlk noBlk noBlk noBlk noBlk noBlk noBlk noBlk noBlk
theorem tabOK : TfOK Tryz.prog 1 (look3 tab) := tab_ok (fall b0ok b1ok noBlk_ok noBlk_ok noBlk_ok noBlk_ok noBlk_ok noBlk_ok noBlk_ok noBlk_ok noBlk_ok noBlk_ok noBlk_ok noBlk_ok noBlk_ok noBlk_ok)
end Go.Proofs.YtogmgjcdicnceaaGreatDoor
