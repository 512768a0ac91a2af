/- Closed facts of the translated program: what it comes to, and the tables that an evaluator reads. No condition. -/
import Derived.Test.YtonhkjkdmfaodaaGreatDoorCards
import Derived.Test.YtonhkjkdmfaodaaGreatDoorTie
import Derived.Test.YtonhkjkdmfaodaaGreatDoorALInit
import Derived.JoinedCond
import Derived.SevenTiedAt
namespace Go.Proofs.YtonhkjkdmfaodaaGreatDoor.textWords
open Go.RowKit Go.AL

theorem closure3 : Tryz.prog.closure 3 = [3, 4, 5, 11, 6, 7, 8, 9, 10, 12, 15, 27, 59, 113, 182, 58, 112, 179, 237, 238, 285, 180, 239, 181, 240, 286, 338, 287, 288, 289, 339, 60, 114, 183, 28, 61, 115, 116, 184, 117, 62, 63, 64, 118, 119, 185, 120, 121, 65, 122, 186, 241, 242, 290, 16, 29, 66, 123, 148, 206, 205, 124, 125, 30, 67, 126, 187, 221, 272, 273, 243, 291, 292, 340, 293, 330, 331, 294, 341, 342, 359, 295, 296, 297, 298, 188, 244, 299, 343, 189, 31, 68, 127, 69, 32, 13, 17, 33, 37, 80, 82, 83, 146, 81, 145, 84, 147, 85, 86, 70, 128, 129, 34, 71, 130, 75, 143, 144, 132, 191, 245, 246, 131, 190, 73, 137, 202, 249, 93, 151, 152, 210, 258, 304, 306, 153, 305, 154, 211, 212, 259, 316, 318, 317, 351, 216, 213, 260, 319, 325, 355, 320, 352, 321, 322, 353, 354, 368, 323, 324, 326, 327, 345, 314, 166, 138, 203, 139, 18, 38, 87, 88, 149, 89, 39, 40, 90, 41, 42, 140, 91, 96, 150, 46, 95, 94, 92, 207, 253, 99, 209, 256, 155, 214, 167, 311, 274, 278, 335, 358, 312, 348, 279, 336, 334, 349, 364, 366, 367, 365, 371, 350, 257, 97, 156, 215, 261, 157, 159, 217, 262, 263, 163, 222, 223, 275, 276, 277, 328, 224, 227, 356, 218, 219, 158, 160, 220, 264, 265, 329, 266, 267, 332, 333, 357, 268, 269, 270, 271, 161, 162, 313, 226, 315, 208, 254, 255, 141, 204, 250, 307, 252, 309, 310, 347, 346, 251, 308, 142, 72, 133, 192, 196, 248, 301, 344, 360, 369, 372, 373, 382, 374, 375, 383, 384, 385, 376, 377, 378, 379, 361, 362, 370, 380, 381, 363, 302, 303, 134, 193, 247, 300, 284, 337, 135, 194, 195, 136, 197, 198, 199, 200, 201, 74, 35, 77, 76, 78, 36, 79, 19, 43, 44, 45, 47, 98, 164, 225, 165, 228, 14, 20, 48, 49, 100, 101, 102, 168, 50, 103, 104, 169, 51, 105, 106, 21, 53, 108, 107, 170, 171, 229, 52, 26, 22, 54, 23, 55, 109, 172, 173, 174, 110, 175, 230, 176, 177, 231, 232, 280, 25, 24, 56, 57, 111, 178, 233, 234, 281, 282, 235, 236, 283] := by kernel_rfl
theorem inPlace3 : Tryz.prog.inPlace 3 = Rows.textWordsRow.inPlace := by unfold Program.inPlace; rw [closure3]; kernel_rfl
theorem unfollowed3 : Tryz.prog.unfollowed 3 = true := by unfold Program.unfollowed; rw [closure3]; kernel_rfl
theorem recurses3 : Tryz.prog.recurses 3 = true := by unfold Program.recurses; rw [unfollowed3]; rfl
theorem varsNamed3 : Tryz.prog.varsNamed 3 = Rows.textWordsRow.named := by unfold Program.varsNamed; rw [closure3]; kernel_rfl
theorem joined : joinedFacts Tryz.prog 3 Tryz.f3 (OpenSpec.ofChange Rows.textWordsSpec).bare Rows.textWordsRow = true := by
  unfold joinedFacts
  rw [inPlace3, unfollowed3, recurses3, varsNamed3]
  kernel_rfl
theorem goes3 : Tryz.prog.goes 3 = false := by unfold Program.goes; rw [closure3, unfollowed3]; kernel_rfl
theorem named3 : Tryz.prog.funcNamed "deemster/deemsterlaw39.TextWords" = some 3 := by kernel_rfl
theorem goesBy3 : false = Rows.textWordsRow.goesBy Tryz.prog := by
  show false = (Tryz.prog.goesFrom "deemster/deemsterlaw39.TextWords" || false)
  unfold Program.goesFrom
  rw [named3, Option.any_some, goes3]; rfl
theorem wfText : Rows.textWordsRow.wfByText (OpenSpec.ofChange Rows.textWordsSpec) = true := by kernel_rfl
theorem looks : true = Tryz.prog.looks [] := by kernel_rfl
theorem own : ownKnob Tryz.prog.godebug = none := by kernel_rfl
theorem follows : Tryz.prog.follows .mixedOrders = true := by kernel_rfl
theorem noGor : NoGor Tryz.prog := noGor_of (by kernel_rfl)
theorem okAll : Tryz.prog.funcs.toList.all (okF 10) = true := by kernel_rfl
noncomputable def xs : List (Nat × XF) := [(170, .esc), (229, .mnz 5), (239, .fn Extern.BytealgCount.count), (338, .fn Extern.BytealgIndexByte.indexByte)]
theorem xsOk : ∀ p ∈ xs, XOk Tryz.prog p.1 p.2 := by
  intro p hp
  simp only [xs, List.mem_cons, List.mem_nil_iff, or_false] at hp
  rcases hp with rfl | rfl | rfl | rfl
  · exact ⟨_, Tryz.func170, rfl, by kernel_rfl, by kernel_rfl⟩
  · exact ⟨_, 71, Tryz.func229, rfl, by kernel_rfl, by kernel_rfl, rfl, Tryz.underlying71⟩
  · exact ⟨_, Tryz.func239, rfl, by kernel_rfl, by kernel_rfl, by kernel_rfl⟩
  · exact ⟨_, Tryz.func338, rfl, by kernel_rfl, by kernel_rfl, by kernel_rfl⟩
theorem tables : Tabs Tryz.prog 10 (FofP Tryz.prog) (xOf xs) := tabs_of okAll xsOk
noncomputable def gl : List (Nat × DataW Unit) := [(0, Rows.laid_deemster_text_levels), (1, Rows.laid_deemster_text_policies), (2, Rows.laid_deemster_text_verdicts), (3, Rows.laid_deemster_event_words), (8, Rows.laid_math_bits_deBruijn64tab)]
noncomputable def tabs : List (Nat × List Value) := gl.map fun p => (p.1, (plainAgg p.2).getD [])
/-- The law's call on the abstract machine, at this number, ends as it should. -/
def Run (a : Int) : Prop := okRun 10 (evalS Tryz.prog 10 (FofP Tryz.prog) (xOf xs) 1000000 (.call 3 #[.int .i64 a]) (gHeap tabs) 10 10) = true
end Go.Proofs.YtonhkjkdmfaodaaGreatDoor.textWords
