/- Closed facts of the translated program: what it comes to, and the tables that an evaluator reads. No condition. -/
import Derived.Test.YtoonbgmckbkpbaaGreatDoorCards
import Derived.Test.YtoonbgmckbkpbaaGreatDoorTie
import Derived.Test.YtoonbgmckbkpbaaGreatDoorALInit
import Derived.JoinedCond
import Derived.SevenTiedAt
namespace Go.Proofs.YtoonbgmckbkpbaaGreatDoor.deskNone
open Go.RowKit Go.AL

theorem closure3 : Tryz.prog.closure 3 = [3, 4, 6, 10, 11, 7, 8, 12, 23, 38, 13, 24, 39, 69, 70, 65, 66, 32, 58, 104, 154, 57, 103, 152, 197, 198, 238, 153, 199, 106, 156, 200, 239, 201, 202, 203, 240, 59, 105, 155, 111, 33, 60, 61, 107, 62, 159, 149, 148, 192, 193, 237, 194, 195, 160, 205, 109, 157, 158, 204, 67, 112, 161, 101, 133, 184, 183, 206, 207, 113, 162, 208, 241, 234, 284, 271, 287, 327, 328, 365, 329, 323, 324, 330, 366, 367, 396, 331, 332, 333, 334, 232, 275, 321, 363, 242, 114, 129, 182, 163, 115, 110, 71, 116, 49, 46, 79, 81, 82, 131, 80, 130, 83, 132, 84, 85, 89, 139, 140, 164, 209, 243, 52, 92, 93, 51, 91, 144, 145, 244, 288, 211, 249, 299, 336, 222, 137, 138, 190, 236, 369, 371, 257, 370, 258, 134, 135, 90, 141, 143, 142, 191, 185, 305, 345, 381, 387, 406, 382, 403, 383, 384, 404, 405, 414, 385, 386, 388, 389, 397, 379, 146, 250, 300, 251, 117, 167, 47, 217, 255, 218, 168, 169, 219, 170, 171, 252, 220, 123, 256, 175, 224, 223, 221, 302, 340, 94, 304, 343, 259, 306, 177, 376, 357, 361, 395, 409, 377, 400, 362, 320, 394, 401, 410, 412, 413, 411, 415, 402, 344, 225, 260, 307, 346, 261, 263, 308, 347, 348, 267, 312, 313, 358, 359, 360, 390, 314, 317, 407, 309, 310, 262, 264, 311, 349, 350, 391, 351, 352, 392, 393, 408, 353, 354, 355, 356, 265, 266, 378, 316, 380, 303, 341, 342, 253, 301, 337, 372, 339, 374, 375, 399, 398, 338, 373, 254, 210, 245, 289, 293, 48, 86, 136, 186, 233, 276, 277, 322, 278, 279, 325, 326, 364, 280, 281, 282, 283, 187, 188, 235, 285, 286, 189, 87, 88, 246, 290, 335, 368, 274, 319, 247, 291, 292, 248, 294, 295, 296, 297, 298, 212, 165, 214, 213, 215, 166, 216, 118, 172, 173, 174, 176, 226, 268, 315, 269, 318, 25, 14, 26, 40, 72, 73, 119, 120, 121, 178, 74, 122, 124, 179, 75, 125, 126, 41, 76, 127, 37, 68, 180, 227, 21, 22, 42, 43, 31, 55, 96, 97, 98, 56, 99, 147, 100, 102, 150, 151, 196, 45, 44, 77, 78, 128, 181, 228, 229, 270, 272, 230, 231, 273, 15, 27, 16, 29, 28, 17, 30, 50, 53, 54, 95, 18, 5, 9, 19, 34, 63, 64, 108, 20, 35, 36] := by kernel_rfl
theorem inPlace3 : Tryz.prog.inPlace 3 = Rows.deskNoneRow.inPlace := by unfold Program.inPlace; rw [closure3]; kernel_rfl
theorem unfollowed3 : Tryz.prog.unfollowed 3 = true := by unfold Program.unfollowed; rw [closure3]; kernel_rfl
theorem recurses3 : Tryz.prog.recurses 3 = true := by unfold Program.recurses; rw [unfollowed3]; rfl
theorem varsNamed3 : Tryz.prog.varsNamed 3 = Rows.deskNoneRow.named := by unfold Program.varsNamed; rw [closure3]; kernel_rfl
theorem joined : joinedFacts Tryz.prog 3 Tryz.f3 (OpenSpec.ofChange Rows.deskNoneSpec).bare Rows.deskNoneRow = true := by
  unfold joinedFacts
  rw [inPlace3, unfollowed3, recurses3, varsNamed3]
  kernel_rfl
theorem goes3 : Tryz.prog.goes 3 = false := by unfold Program.goes; rw [closure3, unfollowed3]; kernel_rfl
theorem named3 : Tryz.prog.funcNamed "deemster/deemsterlaw44.DeskNone" = some 3 := by kernel_rfl
theorem goesBy3 : false = Rows.deskNoneRow.goesBy Tryz.prog := by
  show false = (Tryz.prog.goesFrom "deemster/deemsterlaw44.DeskNone" || false)
  unfold Program.goesFrom
  rw [named3, Option.any_some, goes3]; rfl
theorem wfText : Rows.deskNoneRow.wfByText (OpenSpec.ofChange Rows.deskNoneSpec) = true := by kernel_rfl
theorem looks : true = Tryz.prog.looks [] := by kernel_rfl
theorem own : ownKnob Tryz.prog.godebug = none := by kernel_rfl
theorem follows : Tryz.prog.follows .mixedOrders = true := by kernel_rfl
theorem noGor : NoGor Tryz.prog := noGor_of (by kernel_rfl)
theorem okAll : Tryz.prog.funcs.toList.all (okF 11) = true := by kernel_rfl
noncomputable def xs : List (Nat × XF) := [(68, .esc), (227, .mnz 5), (199, .fn Extern.BytealgCount.count), (239, .fn Extern.BytealgIndexByte.indexByte)]
theorem xsOk : ∀ p ∈ xs, XOk Tryz.prog p.1 p.2 := by
  intro p hp
  simp only [xs, List.mem_cons, List.mem_nil_iff, or_false] at hp
  rcases hp with rfl | rfl | rfl | rfl
  · exact ⟨_, Tryz.func68, rfl, by kernel_rfl, by kernel_rfl⟩
  · exact ⟨_, 47, Tryz.func227, rfl, by kernel_rfl, by kernel_rfl, rfl, Tryz.underlying47⟩
  · exact ⟨_, Tryz.func199, rfl, by kernel_rfl, by kernel_rfl, by kernel_rfl⟩
  · exact ⟨_, Tryz.func239, rfl, by kernel_rfl, by kernel_rfl, by kernel_rfl⟩
theorem tables : Tabs Tryz.prog 11 (FofP Tryz.prog) (xOf xs) := tabs_of okAll xsOk
noncomputable def gl : List (Nat × DataW Unit) := [(0, Rows.laid_deemster_text_levels), (1, Rows.laid_deemster_text_policies), (2, Rows.laid_deemster_script_firsts), (3, Rows.laid_deemster_text_verdicts), (4, Rows.laid_deemster_event_words), (10, Rows.laid_math_bits_deBruijn64tab)]
noncomputable def tabs : List (Nat × List Value) := gl.map fun p => (p.1, (plainAgg p.2).getD [])
end Go.Proofs.YtoonbgmckbkpbaaGreatDoor.deskNone
