/-
  The statement NodeNames: the call returns true at every input, and each argument reads afterwards as it read before.
-/
import Derived.Test.YtkiakphfgdkdiaaGreatEvT2
import Derived.ProofKit
import Derived.OpenShut
import Derived.ShutString
import Derived.ChangeOld
import Derived.Below
namespace Go.Proofs.YtkiakphfgdkdiaaGreat.nodeNames
open Go.ChangeShapes Go.WideShapes Go.ChangeAt Go.RowKit
open Go.ChangeMaps (open_string shut_string)
set_option linter.unusedVariables false

theorem own : ownKnob Tryz.prog.godebug = none := by kernel_rfl
theorem laidOut : laidOutB Tryz.prog = true := by kernel_rfl

set_option maxRecDepth 100000 in
theorem lifted (os : Os) (started : os.Started) (H : Type) (enc : TypeId × Value → H) :
    ReturnsInHanded {} Tryz.checked os 4 .any (Rows.nodeNamesSpec.pre6 enc Tryz.prog Tryz.f4 Rows.nodeNamesRow.domain false) (Rows.nodeNamesSpec.post enc Tryz.prog Tryz.f4 false true false false) := by
  refine returnsInHanded_of_change (C := Tryz.checked) own started (by kernel_rfl) Tryz.func4
    (ChangeSpec.witness6 (enc := enc) (C := Tryz.checked) false ⟨#[], #[], []⟩ 8 (by kernel_rfl) (by kernel_rfl) (by kernel_rfl) (by kernel_rfl)) ?_
  intro W base args ds gs before hval0 hW hcnd _
  have hval : ∀ (j : Nat) t v, Tryz.f4.params[j]? = some t → args[j]? = some v → Value.okWide Tryz.prog W .any base t v := hval0
  have hW' := hW
  obtain ⟨p, q, hA0, hV, rfl, hfz, hnd⟩ := hW
  have hA : DataW.TrodAll enc Tryz.prog W 0 (fun _ => true) true Tryz.f4.params.toList args.toList ds p := hA0
  rw [Tryz.params4] at hA hval
  obtain ⟨rfl, rfl, rfl⟩ := trodAll_none hA
  obtain ⟨rfl, rfl⟩ := trodVars_none hV
  clear hA0 hval0
  refine (walkNodeNames (w := W) ).mono fun e W' ⟨he, bel⟩ => ?_
  subst he
  exact ⟨_, rfl, _, _, _, [], _, [], hW', trodAll_mk1 (shut_bool Tryz.underlying4 _), trodAll_mk0, rfl, bel.frame _, fun h => by cases h⟩

theorem closL : Tryz.prog.closure 4 = [4, 18, 43, 111, 83, 112, 113, 19, 46, 116, 117, 21, 20, 47, 48, 118, 190, 265, 49, 119, 120, 191, 192, 50, 51, 52, 53, 54, 121, 55, 56, 57, 58, 59, 122, 60, 123, 22, 23, 33, 64, 132, 131, 62, 63, 129, 144, 205, 133, 206, 283, 323, 357, 333, 334, 330, 363, 335, 186, 258, 259, 157, 207, 261, 212, 262, 260, 286, 263, 204, 281, 331, 271, 185, 255, 256, 257, 284, 336, 365, 375, 364, 373, 378, 374, 380, 390, 391, 379, 382, 383, 392, 384, 393, 394, 385, 395, 396, 397, 386, 387, 388, 389, 366, 322, 356, 355, 282, 332, 187, 253, 328, 361, 360, 372, 377, 381, 130, 195, 270, 326, 61, 124, 125, 193, 126, 194, 266, 267, 201, 278, 219, 226, 297, 268, 325, 14, 44, 114, 324, 358, 269, 159, 127, 128, 24, 65, 66, 25, 67, 10, 35, 94, 179, 247, 36, 37, 39, 95, 180, 103, 38, 40, 97, 96, 181, 98, 182, 249, 250, 320, 321, 319, 251, 248, 100, 99, 102, 101, 41, 104, 42, 105, 106, 107, 108, 109, 183, 252, 184, 188, 254, 189, 264, 110, 68, 134, 69, 135, 70, 136, 196, 272, 273, 242, 315, 316, 167, 71, 137, 138, 197, 274, 327, 359, 370, 148, 211, 287, 371, 329, 362, 198, 139, 199, 275, 276, 147, 210, 285, 140, 141, 200, 277, 291, 339, 142, 26, 72, 73, 143, 203, 280, 202, 279, 74, 75, 146, 145, 208, 209, 76, 149, 213, 288, 151, 216, 217, 292, 150, 214, 215, 289, 290, 337, 338, 367, 376, 77, 152, 218, 153, 221, 222, 298, 220, 293, 340, 342, 343, 341, 294, 344, 295, 345, 296, 78, 155, 154, 79, 156, 223, 299, 224, 300, 306, 350, 369, 346, 225, 301, 347, 302, 158, 160, 161, 162, 227, 228, 229, 307, 303, 304, 305, 349, 348, 368, 230, 309, 310, 351, 311, 312, 352, 353, 313, 308, 163, 45, 115, 231, 232, 164, 80, 165, 234, 235, 233, 236, 27, 81, 166, 82, 168, 238, 237, 169, 170, 239, 314, 354, 28, 15, 12, 8, 13, 16, 29, 31, 84, 171, 240, 85, 172, 86, 87, 88, 89, 173, 90, 91, 174, 241, 11, 30, 92, 175, 243, 93, 178, 246, 318, 177, 244, 176, 245, 317, 6] := by kernel_rfl
theorem inP : Tryz.prog.inPlace 4 = Rows.nodeNamesRow.inPlace := by unfold Program.inPlace; rw [closL]; kernel_rfl
theorem unf : Tryz.prog.unfollowed 4 = Rows.nodeNamesRow.unfollowed := by unfold Program.unfollowed; rw [closL]; kernel_rfl
theorem nam : Tryz.prog.varsNamed 4 = Rows.nodeNamesRow.named := by unfold Program.varsNamed; rw [closL]; kernel_rfl
theorem recu : Tryz.prog.recurses 4 = Rows.nodeNamesRow.recurses := by unfold Program.recurses; rw [unf]; kernel_rfl
theorem joined : joinedFacts Tryz.prog 4 Tryz.f4 Rows.nodeNamesSpec Rows.nodeNamesRow = true := by unfold joinedFacts; rw [inP, unf, recu, nam]; kernel_rfl
theorem over : Rows.nodeNamesRow.holds Tryz.pinned (OpenSpec.ofChange Rows.nodeNamesSpec) :=
  OpenClaim.holds_of_wide 4 Tryz.f4 rfl rfl rfl rfl rfl rfl rfl ⟨rfl, rfl, rfl, rfl, rfl⟩ rfl rfl rfl rfl rfl (by kernel_rfl) Tryz.func4 joined
    (of_decide_eq_true (by kernel_rfl)) (by unfold Func.isWrapper; first | (rw [if_pos (by decide +kernel)]; kernel_rfl) | (rw [if_neg (by decide +kernel)]; exact ⟨rfl, rfl⟩))
    (fun os started H enc _ => lifted os started H enc)

theorem proved : Rows.NodeNamesSaid := over
end Go.Proofs.YtkiakphfgdkdiaaGreat.nodeNames
