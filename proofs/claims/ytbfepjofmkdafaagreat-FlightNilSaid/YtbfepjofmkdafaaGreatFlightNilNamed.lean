/- No package variable is named on the road: in parts (own work). -/
import Derived.Test.YtbfepjofmkdafaaGreatRows
import Derived.KernelRfl
namespace Go.Proofs.YtbfepjofmkdafaaGreat.flightNilNamed
open Go
def c0 : List Nat := [4, 15, 14, 49, 95, 151, 50, 42, 85, 82, 86, 126, 183, 184, 282, 284, 185, 285, 283, 186, 286, 187, 188, 127, 189, 287, 374, 378, 447, 530, 375, 288, 190, 289, 376, 471, 128, 73, 129, 130, 191, 273, 370, 467, 290, 377, 472, 422, 473, 379, 474, 351, 446, 380, 475, 381, 476, 477, 478, 212]
def c1 : List Nat := [322, 320, 421, 210, 319, 479, 382, 291, 383, 384, 385, 387, 480, 388, 483, 164, 263, 481, 386, 482, 192, 123, 173, 270, 368, 389, 484, 485, 546, 548, 321, 156, 254, 255, 491, 547, 486, 369, 394, 489, 490, 492, 549, 165, 271, 272, 174, 175, 176, 274, 275, 276, 87, 131, 83, 89, 133, 122, 170, 265]
def c2 : List Nat := [266, 171, 267, 214, 217, 172, 268, 367, 466, 366, 464, 541, 465, 542, 562, 568, 588, 563, 585, 564, 355, 356, 565, 586, 587, 601, 566, 567, 569, 570, 269, 134, 196, 180, 181, 280, 373, 470, 239, 346, 238, 469, 545, 573, 574, 597, 575, 576, 598, 599, 605, 577, 578, 579, 580, 281, 299, 298, 197, 240]
def c3 : List Nat := [348, 347, 445, 529, 198, 300, 264, 136, 201, 305, 179, 278, 372, 468, 544, 572, 543, 571, 589, 590, 602, 591, 592, 603, 604, 607, 593, 594, 595, 596, 311, 215, 324, 323, 325, 326, 423, 508, 509, 552, 510, 511, 553, 554, 581, 512, 513, 514, 515, 327, 416, 417, 506, 507, 551, 419, 418, 312, 279, 306]
def c4 : List Nat := [304, 207, 315, 317, 328, 316, 199, 301, 302, 401, 200, 303, 402, 403, 496, 404, 497, 550, 433, 523, 557, 405, 498, 307, 209, 406, 407, 499, 525, 500, 408, 501, 135, 202, 308, 203, 30, 74, 113, 161, 258, 205, 204, 309, 167, 310, 409, 411, 410, 412, 502, 503, 277, 371, 413, 504, 505, 415, 414, 313]
def c5 : List Nat := [206, 314, 420, 137, 208, 318, 213, 211, 138, 216, 218, 139, 219, 329, 424, 425, 516, 555, 426, 517, 556, 427, 518, 519, 428, 330, 429, 430, 177, 520, 431, 521, 221, 338, 443, 528, 339, 340, 331, 432, 522, 434, 524, 435, 436, 220, 332, 334, 333, 437, 335, 336, 438, 526, 439, 440, 441, 527, 337, 442]
def c6 : List Nat := [222, 182, 88, 132, 193, 292, 390, 391, 487, 352, 293, 392, 488, 393, 194, 294, 395, 396, 493, 295, 397, 494, 495, 399, 398, 400, 195, 296, 297, 6, 27, 29, 39, 81, 72, 34, 40, 84, 124, 178, 125, 70, 69, 111, 28, 71, 112, 160, 32, 31, 75, 76, 115, 114, 162, 259, 163, 260, 362, 456]
def c7 : List Nat := [457, 458, 459, 460, 534, 535, 536, 537, 538, 462, 261, 363, 461, 463, 539, 540, 262, 365, 364, 33, 77, 96, 97, 152, 242, 349, 243, 350, 51, 52, 16, 53, 57, 103, 98, 153, 244, 353, 448, 11, 17, 18, 55, 101, 54, 99, 154, 100, 155, 245, 251, 246, 354, 247, 248, 357, 358, 449, 249, 250]
def c8 : List Nat := [252, 253, 19, 56, 102, 157, 20, 21, 22, 23, 24, 25, 58, 104, 9, 38, 8, 35, 79, 78, 116, 166, 36, 37, 80, 117, 118, 119, 168, 120, 169, 121, 105, 41, 107, 158, 257, 256, 359, 344, 360, 361, 450, 451, 452, 531, 558, 559, 560, 582, 584, 583, 600, 606, 608, 609, 561, 532, 453, 454]
def c9 : List Nat := [533, 455, 106, 108, 59, 64, 60, 109, 159, 61, 63, 62, 110, 45, 91, 146, 237, 147, 92, 148, 241, 93, 149, 46, 94, 150, 43, 90, 140, 223, 141, 224, 236, 345, 225, 226, 227, 341, 444, 228, 229, 230, 342, 343, 142, 231, 232, 143, 233, 144, 234, 145, 235, 66, 65]
theorem closed : Tryz.prog.closure 4 = c0 ++ c1 ++ c2 ++ c3 ++ c4 ++ c5 ++ c6 ++ c7 ++ c8 ++ c9 := by kernel_rfl
theorem a0 : (c0.flatMap fun g => ((Tryz.prog.funcs[g]?).bind (·.body)).elim [] Code.globalsNamed) = [] := by kernel_rfl
theorem b0 : (c0.filterMap fun g => (Tryz.prog.funcs[g]?).bind fun fn => if fn.body.isNone then entryReads.lookup fn.name else none) = [] := by kernel_rfl
theorem a1 : (c1.flatMap fun g => ((Tryz.prog.funcs[g]?).bind (·.body)).elim [] Code.globalsNamed) = [] := by kernel_rfl
theorem b1 : (c1.filterMap fun g => (Tryz.prog.funcs[g]?).bind fun fn => if fn.body.isNone then entryReads.lookup fn.name else none) = [] := by kernel_rfl
theorem a2 : (c2.flatMap fun g => ((Tryz.prog.funcs[g]?).bind (·.body)).elim [] Code.globalsNamed) = [] := by kernel_rfl
theorem b2 : (c2.filterMap fun g => (Tryz.prog.funcs[g]?).bind fun fn => if fn.body.isNone then entryReads.lookup fn.name else none) = [] := by kernel_rfl
theorem a3 : (c3.flatMap fun g => ((Tryz.prog.funcs[g]?).bind (·.body)).elim [] Code.globalsNamed) = [] := by kernel_rfl
theorem b3 : (c3.filterMap fun g => (Tryz.prog.funcs[g]?).bind fun fn => if fn.body.isNone then entryReads.lookup fn.name else none) = [] := by kernel_rfl
theorem a4 : (c4.flatMap fun g => ((Tryz.prog.funcs[g]?).bind (·.body)).elim [] Code.globalsNamed) = [] := by kernel_rfl
theorem b4 : (c4.filterMap fun g => (Tryz.prog.funcs[g]?).bind fun fn => if fn.body.isNone then entryReads.lookup fn.name else none) = [] := by kernel_rfl
theorem a5 : (c5.flatMap fun g => ((Tryz.prog.funcs[g]?).bind (·.body)).elim [] Code.globalsNamed) = [] := by kernel_rfl
theorem b5 : (c5.filterMap fun g => (Tryz.prog.funcs[g]?).bind fun fn => if fn.body.isNone then entryReads.lookup fn.name else none) = [] := by kernel_rfl
theorem a6 : (c6.flatMap fun g => ((Tryz.prog.funcs[g]?).bind (·.body)).elim [] Code.globalsNamed) = [] := by kernel_rfl
theorem b6 : (c6.filterMap fun g => (Tryz.prog.funcs[g]?).bind fun fn => if fn.body.isNone then entryReads.lookup fn.name else none) = [] := by kernel_rfl
theorem a7 : (c7.flatMap fun g => ((Tryz.prog.funcs[g]?).bind (·.body)).elim [] Code.globalsNamed) = [] := by kernel_rfl
theorem b7 : (c7.filterMap fun g => (Tryz.prog.funcs[g]?).bind fun fn => if fn.body.isNone then entryReads.lookup fn.name else none) = [] := by kernel_rfl
theorem a8 : (c8.flatMap fun g => ((Tryz.prog.funcs[g]?).bind (·.body)).elim [] Code.globalsNamed) = [] := by kernel_rfl
theorem b8 : (c8.filterMap fun g => (Tryz.prog.funcs[g]?).bind fun fn => if fn.body.isNone then entryReads.lookup fn.name else none) = [] := by kernel_rfl
theorem a9 : (c9.flatMap fun g => ((Tryz.prog.funcs[g]?).bind (·.body)).elim [] Code.globalsNamed) = [] := by kernel_rfl
theorem b9 : (c9.filterMap fun g => (Tryz.prog.funcs[g]?).bind fun fn => if fn.body.isNone then entryReads.lookup fn.name else none) = [] := by kernel_rfl
theorem named : Tryz.prog.varsNamed 4 = [] := by
  unfold Program.varsNamed
  rw [closed]
  simp only [List.flatMap_append, List.filterMap_append, a0, b0, a1, b1, a2, b2, a3, b3, a4, b4, a5, b5, a6, b6, a7, b7, a8, b8, a9, b9]
  rfl
theorem inPlace : Tryz.prog.inPlace 4 = Rows.flightNilRow.inPlace := by
  unfold Program.inPlace
  rw [closed]
  kernel_rfl
theorem unfollowed : Tryz.prog.unfollowed 4 = true := by
  unfold Program.unfollowed
  rw [closed]
  kernel_rfl
theorem recurses : Tryz.prog.recurses 4 = true := by
  unfold Program.recurses
  rw [unfollowed]
  rfl
end Go.Proofs.YtbfepjofmkdafaaGreat.flightNilNamed
