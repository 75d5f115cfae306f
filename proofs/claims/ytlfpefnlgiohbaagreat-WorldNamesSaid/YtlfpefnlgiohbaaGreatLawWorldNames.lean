/-
  The statement WorldNames: the call returns true at every input, and each argument reads afterwards as it read before.
-/
import Derived.Test.YtlfpefnlgiohbaaGreatWorJ
import Derived.ProofKit
import Derived.OpenShut
import Derived.ShutString
import Derived.ChangeOld
import Derived.Below
namespace Go.Proofs.YtlfpefnlgiohbaaGreat.worldNames
open Go.ChangeShapes Go.WideShapes Go.ChangeAt Go.RowKit
open Go.ChangeMaps (open_string shut_string)
set_option linter.unusedVariables false

theorem own : ownKnob Tryz.prog.godebug = none := by kernel_rfl
theorem laidOut : laidOutB Tryz.prog = true := by kernel_rfl

set_option maxRecDepth 100000 in
theorem lifted (os : Os) (started : os.Started) (H : Type) (enc : TypeId × Value → H) :
    ReturnsInHanded {} Tryz.checked os 3 .any (Rows.worldNamesSpec.pre6 enc Tryz.prog Tryz.f3 Rows.worldNamesRow.domain false) (Rows.worldNamesSpec.post enc Tryz.prog Tryz.f3 false true false false) := by
  refine returnsInHanded_of_change (C := Tryz.checked) own started (by kernel_rfl) Tryz.func3
    (ChangeSpec.witness6 (enc := enc) (C := Tryz.checked) false ⟨#[], #[], []⟩ 8 (by kernel_rfl) (by kernel_rfl) (by kernel_rfl) (by kernel_rfl)) ?_
  intro W base args ds gs before hval0 hW hcnd _
  have hval : ∀ (j : Nat) t v, Tryz.f3.params[j]? = some t → args[j]? = some v → Value.okWide Tryz.prog W .any base t v := hval0
  have hW' := hW
  obtain ⟨p, q, hA0, hV, rfl, hfz, hnd⟩ := hW
  have hA : DataW.TrodAll enc Tryz.prog W 0 (fun _ => true) true Tryz.f3.params.toList args.toList ds p := hA0
  rw [Tryz.params3] at hA hval
  obtain ⟨rfl, rfl, rfl⟩ := trodAll_none hA
  obtain ⟨rfl, rfl⟩ := trodVars_none hV
  clear hA0 hval0
  refine (walkWorldNames (w := W) ).mono fun e W' ⟨he, bel⟩ => ?_
  subst he
  exact ⟨_, rfl, _, _, _, [], _, [], hW', trodAll_mk1 (shut_bool Tryz.underlying4 _), trodAll_mk0, rfl, bel.frame _, fun h => by cases h⟩

theorem closL : Tryz.prog.closure 3 = [3, 4, 14, 33, 34, 35, 27, 51, 113, 188, 53, 52, 54, 114, 115, 68, 69, 70, 71, 72, 123, 73, 74, 75, 76, 77, 124, 78, 125, 15, 36, 79, 126, 89, 39, 90, 91, 37, 80, 127, 192, 265, 333, 128, 129, 131, 193, 266, 201, 130, 132, 195, 194, 267, 196, 268, 335, 336, 378, 379, 377, 337, 334, 198, 197, 200, 199, 133, 202, 134, 203, 204, 205, 206, 207, 269, 338, 143, 215, 270, 273, 306, 359, 391, 390, 232, 300, 357, 171, 230, 339, 228, 292, 293, 295, 117, 236, 58, 296, 294, 303, 297, 271, 340, 341, 307, 301, 358, 388, 400, 387, 398, 403, 399, 405, 415, 416, 404, 407, 408, 417, 409, 418, 419, 410, 420, 421, 422, 411, 412, 413, 414, 389, 299, 272, 274, 342, 208, 81, 135, 209, 210, 211, 136, 137, 138, 82, 139, 213, 212, 140, 141, 214, 275, 343, 50, 93, 9, 38, 84, 85, 147, 86, 148, 87, 149, 217, 280, 281, 191, 116, 118, 263, 264, 187, 88, 150, 98, 108, 182, 181, 142, 157, 226, 183, 227, 291, 344, 380, 353, 354, 350, 386, 355, 225, 55, 289, 351, 290, 352, 348, 384, 383, 397, 402, 406, 158, 229, 298, 356, 151, 109, 218, 282, 347, 382, 222, 286, 395, 162, 235, 304, 396, 349, 385, 219, 152, 220, 283, 284, 161, 234, 302, 153, 154, 221, 285, 310, 362, 155, 83, 144, 216, 276, 277, 243, 250, 316, 278, 346, 345, 381, 279, 173, 145, 146, 26, 49, 112, 186, 16, 17, 40, 92, 18, 41, 94, 95, 19, 42, 43, 20, 21, 44, 96, 97, 156, 224, 288, 223, 287, 99, 100, 160, 159, 231, 233, 101, 163, 237, 305, 165, 240, 241, 311, 164, 238, 239, 308, 309, 360, 361, 392, 401, 102, 166, 242, 167, 245, 246, 317, 244, 312, 363, 365, 366, 364, 313, 367, 314, 368, 315, 180, 103, 169, 168, 104, 170, 247, 318, 248, 319, 325, 373, 394, 369, 249, 320, 370, 321, 172, 174, 175, 176, 251, 252, 253, 326, 322, 323, 324, 372, 371, 393, 254, 328, 329, 374, 330, 331, 375, 376, 332, 327, 177, 255, 258, 256, 257, 178, 107, 105, 179, 260, 261, 259, 262, 22, 45, 106, 23, 46, 110, 24, 47, 25, 48, 111, 184, 185, 5, 28, 29, 6, 7, 8, 10, 11, 12, 30, 56, 57, 59, 119, 189, 60, 120, 61, 62, 63, 64, 121, 65, 66, 122, 190, 31, 67, 32, 13] := by kernel_rfl
theorem inP : Tryz.prog.inPlace 3 = Rows.worldNamesRow.inPlace := by unfold Program.inPlace; rw [closL]; kernel_rfl
theorem unf : Tryz.prog.unfollowed 3 = Rows.worldNamesRow.unfollowed := by unfold Program.unfollowed; rw [closL]; kernel_rfl
theorem nam : Tryz.prog.varsNamed 3 = Rows.worldNamesRow.named := by unfold Program.varsNamed; rw [closL]; kernel_rfl
theorem recu : Tryz.prog.recurses 3 = Rows.worldNamesRow.recurses := by unfold Program.recurses; rw [unf]; kernel_rfl
theorem joined : joinedFacts Tryz.prog 3 Tryz.f3 Rows.worldNamesSpec Rows.worldNamesRow = true := by unfold joinedFacts; rw [inP, unf, recu, nam]; kernel_rfl
theorem over : Rows.worldNamesRow.holds Tryz.pinned (OpenSpec.ofChange Rows.worldNamesSpec) :=
  OpenClaim.holds_of_wide 3 Tryz.f3 rfl rfl rfl rfl rfl rfl rfl ⟨rfl, rfl, rfl, rfl, rfl⟩ rfl rfl rfl rfl rfl (by kernel_rfl) Tryz.func3 joined
    (of_decide_eq_true (by kernel_rfl)) (by unfold Func.isWrapper; first | (rw [if_pos (by decide +kernel)]; kernel_rfl) | (rw [if_neg (by decide +kernel)]; exact ⟨rfl, rfl⟩))
    (fun os started H enc _ => lifted os started H enc)

theorem proved : Rows.WorldNamesSaid := over
end Go.Proofs.YtlfpefnlgiohbaaGreat.worldNames
