/- Parts of the proof: Gc, Pb, Uj, Uk. lay: the contract. Printed by gen_glue.py. No condition. -/
import Derived.Test.YtalhpldbhogadaaGreatO28
import Derived.Test.YtalhpldbhogadaaGreatO30
import Derived.Test.YtalhpldbhogadaaGreatO29
import Derived.Test.YtalhpldbhogadaaGreatO17
namespace Go.Proofs.Lx
open Go Go.RowKit Go.Proofs.Tj
set_option linter.unusedVariables false
set_option linter.unusedSimpArgs false

theorem frame369 (t : Array Value) (h : t.size = 369) : ∃ f : Nat → Value, t = #[f 0, f 1, f 2, f 3, f 4, f 5, f 6, f 7, f 8, f 9, f 10, f 11, f 12, f 13, f 14, f 15, f 16, f 17, f 18, f 19, f 20, f 21, f 22, f 23, f 24, f 25, f 26, f 27, f 28, f 29, f 30, f 31, f 32, f 33, f 34, f 35, f 36, f 37, f 38, f 39, f 40, f 41, f 42, f 43, f 44, f 45, f 46, f 47, f 48, f 49, f 50, f 51, f 52, f 53, f 54, f 55, f 56, f 57, f 58, f 59, f 60, f 61, f 62, f 63, f 64, f 65, f 66, f 67, f 68, f 69, f 70, f 71, f 72, f 73, f 74, f 75, f 76, f 77, f 78, f 79, f 80, f 81, f 82, f 83, f 84, f 85, f 86, f 87, f 88, f 89, f 90, f 91, f 92, f 93, f 94, f 95, f 96, f 97, f 98, f 99, f 100, f 101, f 102, f 103, f 104, f 105, f 106, f 107, f 108, f 109, f 110, f 111, f 112, f 113, f 114, f 115, f 116, f 117, f 118, f 119, f 120, f 121, f 122, f 123, f 124, f 125, f 126, f 127, f 128, f 129, f 130, f 131, f 132, f 133, f 134, f 135, f 136, f 137, f 138, f 139, f 140, f 141, f 142, f 143, f 144, f 145, f 146, f 147, f 148, f 149, f 150, f 151, f 152, f 153, f 154, f 155, f 156, f 157, f 158, f 159, f 160, f 161, f 162, f 163, f 164, f 165, f 166, f 167, f 168, f 169, f 170, f 171, f 172, f 173, f 174, f 175, f 176, f 177, f 178, f 179, f 180, f 181, f 182, f 183, f 184, f 185, f 186, f 187, f 188, f 189, f 190, f 191, f 192, f 193, f 194, f 195, f 196, f 197, f 198, f 199, f 200, f 201, f 202, f 203, f 204, f 205, f 206, f 207, f 208, f 209, f 210, f 211, f 212, f 213, f 214, f 215, f 216, f 217, f 218, f 219, f 220, f 221, f 222, f 223, f 224, f 225, f 226, f 227, f 228, f 229, f 230, f 231, f 232, f 233, f 234, f 235, f 236, f 237, f 238, f 239, f 240, f 241, f 242, f 243, f 244, f 245, f 246, f 247, f 248, f 249, f 250, f 251, f 252, f 253, f 254, f 255, f 256, f 257, f 258, f 259, f 260, f 261, f 262, f 263, f 264, f 265, f 266, f 267, f 268, f 269, f 270, f 271, f 272, f 273, f 274, f 275, f 276, f 277, f 278, f 279, f 280, f 281, f 282, f 283, f 284, f 285, f 286, f 287, f 288, f 289, f 290, f 291, f 292, f 293, f 294, f 295, f 296, f 297, f 298, f 299, f 300, f 301, f 302, f 303, f 304, f 305, f 306, f 307, f 308, f 309, f 310, f 311, f 312, f 313, f 314, f 315, f 316, f 317, f 318, f 319, f 320, f 321, f 322, f 323, f 324, f 325, f 326, f 327, f 328, f 329, f 330, f 331, f 332, f 333, f 334, f 335, f 336, f 337, f 338, f 339, f 340, f 341, f 342, f 343, f 344, f 345, f 346, f 347, f 348, f 349, f 350, f 351, f 352, f 353, f 354, f 355, f 356, f 357, f 358, f 359, f 360, f 361, f 362, f 363, f 364, f 365, f 366, f 367, f 368] ∧ ∀ i (hi : i < t.size), t[i] = f i := by
 obtain ⟨f, hf⟩ : ∃ f : Nat → Value, ∀ i (hi : i < t.size), t[i] = f i := ⟨fun i => t.getD i undef, fun i hi => by simp [Array.getD, hi]⟩
 have e : t.toList = (List.range 369).map f := by
  apply List.ext_getElem
  ·simp [h]
  ·intro i h1 h2
   simp only [Array.getElem_toList, List.getElem_map, List.getElem_range]
   exact hf i _
 have e2 : (List.range 369).map f = [f 0, f 1, f 2, f 3, f 4, f 5, f 6, f 7, f 8, f 9, f 10, f 11, f 12, f 13, f 14, f 15, f 16, f 17, f 18, f 19, f 20, f 21, f 22, f 23, f 24, f 25, f 26, f 27, f 28, f 29, f 30, f 31, f 32, f 33, f 34, f 35, f 36, f 37, f 38, f 39, f 40, f 41, f 42, f 43, f 44, f 45, f 46, f 47, f 48, f 49, f 50, f 51, f 52, f 53, f 54, f 55, f 56, f 57, f 58, f 59, f 60, f 61, f 62, f 63, f 64, f 65, f 66, f 67, f 68, f 69, f 70, f 71, f 72, f 73, f 74, f 75, f 76, f 77, f 78, f 79, f 80, f 81, f 82, f 83, f 84, f 85, f 86, f 87, f 88, f 89, f 90, f 91, f 92, f 93, f 94, f 95, f 96, f 97, f 98, f 99, f 100, f 101, f 102, f 103, f 104, f 105, f 106, f 107, f 108, f 109, f 110, f 111, f 112, f 113, f 114, f 115, f 116, f 117, f 118, f 119, f 120, f 121, f 122, f 123, f 124, f 125, f 126, f 127, f 128, f 129, f 130, f 131, f 132, f 133, f 134, f 135, f 136, f 137, f 138, f 139, f 140, f 141, f 142, f 143, f 144, f 145, f 146, f 147, f 148, f 149, f 150, f 151, f 152, f 153, f 154, f 155, f 156, f 157, f 158, f 159, f 160, f 161, f 162, f 163, f 164, f 165, f 166, f 167, f 168, f 169, f 170, f 171, f 172, f 173, f 174, f 175, f 176, f 177, f 178, f 179, f 180, f 181, f 182, f 183, f 184, f 185, f 186, f 187, f 188, f 189, f 190, f 191, f 192, f 193, f 194, f 195, f 196, f 197, f 198, f 199, f 200, f 201, f 202, f 203, f 204, f 205, f 206, f 207, f 208, f 209, f 210, f 211, f 212, f 213, f 214, f 215, f 216, f 217, f 218, f 219, f 220, f 221, f 222, f 223, f 224, f 225, f 226, f 227, f 228, f 229, f 230, f 231, f 232, f 233, f 234, f 235, f 236, f 237, f 238, f 239, f 240, f 241, f 242, f 243, f 244, f 245, f 246, f 247, f 248, f 249, f 250, f 251, f 252, f 253, f 254, f 255, f 256, f 257, f 258, f 259, f 260, f 261, f 262, f 263, f 264, f 265, f 266, f 267, f 268, f 269, f 270, f 271, f 272, f 273, f 274, f 275, f 276, f 277, f 278, f 279, f 280, f 281, f 282, f 283, f 284, f 285, f 286, f 287, f 288, f 289, f 290, f 291, f 292, f 293, f 294, f 295, f 296, f 297, f 298, f 299, f 300, f 301, f 302, f 303, f 304, f 305, f 306, f 307, f 308, f 309, f 310, f 311, f 312, f 313, f 314, f 315, f 316, f 317, f 318, f 319, f 320, f 321, f 322, f 323, f 324, f 325, f 326, f 327, f 328, f 329, f 330, f 331, f 332, f 333, f 334, f 335, f 336, f 337, f 338, f 339, f 340, f 341, f 342, f 343, f 344, f 345, f 346, f 347, f 348, f 349, f 350, f 351, f 352, f 353, f 354, f 355, f 356, f 357, f 358, f 359, f 360, f 361, f 362, f 363, f 364, f 365, f 366, f 367, f 368] := by kernel_rfl
 refine ⟨f, ?_, hf⟩
 apply Array.toList_inj.1
 rw [e, e2]
theorem at_f {t : Array Value} {f : Nat → Value} (hf : ∀ i (hi : i < t.size), t[i] = f i) {i : Nat} {v : Value} (h : t[i]? = some v) : f i = v := by
 obtain ⟨hi, e⟩ := Array.getElem?_eq_some_iff.1 h
 rw [← hf i hi, e]
theorem wp_frame369 {c : Code} {Q : Exit → Act → World → Prop} {w : World} {t : Array Value} {vl : Value} {bt n m b : Nat} (h : LF t vl bt n m b) (k : ∀ f : Nat → Value, Code.wp Tryz.prog c Q ⟨#[f 0, vl, .pointer (some ⟨bt, 0, none⟩), f 3, f 4, .int .i64 (n : Int), .int .i64 (m : Int), .pointer (some ⟨b, 0, none⟩), f 8, f 9, f 10, f 11, f 12, f 13, f 14, f 15, f 16, f 17, f 18, f 19, f 20, f 21, f 22, f 23, f 24, f 25, f 26, f 27, f 28, f 29, f 30, f 31, f 32, f 33, f 34, f 35, f 36, f 37, f 38, f 39, f 40, f 41, f 42, f 43, f 44, f 45, f 46, f 47, f 48, f 49, f 50, f 51, f 52, f 53, f 54, f 55, f 56, f 57, f 58, f 59, f 60, f 61, f 62, f 63, f 64, f 65, f 66, f 67, f 68, f 69, f 70, f 71, f 72, f 73, f 74, f 75, f 76, f 77, f 78, f 79, f 80, f 81, f 82, f 83, f 84, f 85, f 86, f 87, f 88, f 89, f 90, f 91, f 92, f 93, f 94, f 95, f 96, f 97, f 98, f 99, f 100, f 101, f 102, f 103, f 104, f 105, f 106, f 107, f 108, f 109, f 110, f 111, f 112, f 113, f 114, f 115, f 116, f 117, f 118, f 119, f 120, f 121, f 122, f 123, f 124, f 125, f 126, f 127, f 128, f 129, f 130, f 131, f 132, f 133, f 134, f 135, f 136, f 137, f 138, f 139, f 140, f 141, f 142, f 143, f 144, f 145, f 146, f 147, f 148, f 149, f 150, f 151, f 152, f 153, f 154, f 155, f 156, f 157, f 158, f 159, f 160, f 161, f 162, f 163, f 164, f 165, f 166, f 167, f 168, f 169, f 170, f 171, f 172, f 173, f 174, f 175, f 176, f 177, f 178, f 179, f 180, f 181, f 182, f 183, f 184, f 185, f 186, f 187, f 188, f 189, f 190, f 191, f 192, f 193, f 194, f 195, f 196, f 197, f 198, f 199, f 200, f 201, f 202, f 203, f 204, f 205, f 206, f 207, f 208, f 209, f 210, f 211, f 212, f 213, f 214, f 215, f 216, f 217, f 218, f 219, f 220, f 221, f 222, f 223, f 224, f 225, f 226, f 227, f 228, f 229, f 230, f 231, f 232, f 233, f 234, f 235, f 236, f 237, f 238, f 239, f 240, f 241, f 242, f 243, f 244, f 245, f 246, f 247, f 248, f 249, f 250, f 251, f 252, f 253, f 254, f 255, f 256, f 257, f 258, f 259, f 260, f 261, f 262, f 263, f 264, f 265, f 266, f 267, f 268, f 269, f 270, f 271, f 272, f 273, f 274, f 275, f 276, f 277, f 278, f 279, f 280, f 281, f 282, f 283, f 284, f 285, f 286, f 287, f 288, f 289, f 290, f 291, f 292, f 293, f 294, f 295, f 296, f 297, f 298, f 299, f 300, f 301, f 302, f 303, f 304, f 305, f 306, f 307, f 308, f 309, f 310, f 311, f 312, f 313, f 314, f 315, f 316, f 317, f 318, f 319, f 320, f 321, f 322, f 323, f 324, f 325, f 326, f 327, f 328, f 329, f 330, f 331, f 332, f 333, f 334, f 335, f 336, f 337, f 338, f 339, f 340, f 341, f 342, f 343, f 344, f 345, f 346, f 347, f 348, f 349, f 350, f 351, f 352, f 353, f 354, f 355, f 356, f 357, f 358, f 359, f 360, f 361, f 362, f 363, f 364, f 365, f 366, f 367, f 368], []⟩ w) : Code.wp Tryz.prog c Q ⟨t, []⟩ w := by
 obtain ⟨f, e, hf⟩ := frame369 t h.sz
 have g1 := at_f hf h.t1; have g2 := at_f hf h.t2; have g5 := at_f hf h.t5; have g6 := at_f hf h.t6; have g7 := at_f hf h.t7
 have := k f
 rw [← g1, ← g2, ← g5, ← g6, ← g7] at this
 rw [e]; exact this
theorem wp_frame369x {c : Code} {Q : Exit → Act → World → Prop} {w : World} {t : Array Value} {vl v12 : Value} {bt n m b : Nat} (h : LF t vl bt n m b) (h12 : t[12]? = some v12) (k : ∀ f : Nat → Value, Code.wp Tryz.prog c Q ⟨#[f 0, vl, .pointer (some ⟨bt, 0, none⟩), f 3, f 4, .int .i64 (n : Int), .int .i64 (m : Int), .pointer (some ⟨b, 0, none⟩), f 8, f 9, f 10, f 11, v12, f 13, f 14, f 15, f 16, f 17, f 18, f 19, f 20, f 21, f 22, f 23, f 24, f 25, f 26, f 27, f 28, f 29, f 30, f 31, f 32, f 33, f 34, f 35, f 36, f 37, f 38, f 39, f 40, f 41, f 42, f 43, f 44, f 45, f 46, f 47, f 48, f 49, f 50, f 51, f 52, f 53, f 54, f 55, f 56, f 57, f 58, f 59, f 60, f 61, f 62, f 63, f 64, f 65, f 66, f 67, f 68, f 69, f 70, f 71, f 72, f 73, f 74, f 75, f 76, f 77, f 78, f 79, f 80, f 81, f 82, f 83, f 84, f 85, f 86, f 87, f 88, f 89, f 90, f 91, f 92, f 93, f 94, f 95, f 96, f 97, f 98, f 99, f 100, f 101, f 102, f 103, f 104, f 105, f 106, f 107, f 108, f 109, f 110, f 111, f 112, f 113, f 114, f 115, f 116, f 117, f 118, f 119, f 120, f 121, f 122, f 123, f 124, f 125, f 126, f 127, f 128, f 129, f 130, f 131, f 132, f 133, f 134, f 135, f 136, f 137, f 138, f 139, f 140, f 141, f 142, f 143, f 144, f 145, f 146, f 147, f 148, f 149, f 150, f 151, f 152, f 153, f 154, f 155, f 156, f 157, f 158, f 159, f 160, f 161, f 162, f 163, f 164, f 165, f 166, f 167, f 168, f 169, f 170, f 171, f 172, f 173, f 174, f 175, f 176, f 177, f 178, f 179, f 180, f 181, f 182, f 183, f 184, f 185, f 186, f 187, f 188, f 189, f 190, f 191, f 192, f 193, f 194, f 195, f 196, f 197, f 198, f 199, f 200, f 201, f 202, f 203, f 204, f 205, f 206, f 207, f 208, f 209, f 210, f 211, f 212, f 213, f 214, f 215, f 216, f 217, f 218, f 219, f 220, f 221, f 222, f 223, f 224, f 225, f 226, f 227, f 228, f 229, f 230, f 231, f 232, f 233, f 234, f 235, f 236, f 237, f 238, f 239, f 240, f 241, f 242, f 243, f 244, f 245, f 246, f 247, f 248, f 249, f 250, f 251, f 252, f 253, f 254, f 255, f 256, f 257, f 258, f 259, f 260, f 261, f 262, f 263, f 264, f 265, f 266, f 267, f 268, f 269, f 270, f 271, f 272, f 273, f 274, f 275, f 276, f 277, f 278, f 279, f 280, f 281, f 282, f 283, f 284, f 285, f 286, f 287, f 288, f 289, f 290, f 291, f 292, f 293, f 294, f 295, f 296, f 297, f 298, f 299, f 300, f 301, f 302, f 303, f 304, f 305, f 306, f 307, f 308, f 309, f 310, f 311, f 312, f 313, f 314, f 315, f 316, f 317, f 318, f 319, f 320, f 321, f 322, f 323, f 324, f 325, f 326, f 327, f 328, f 329, f 330, f 331, f 332, f 333, f 334, f 335, f 336, f 337, f 338, f 339, f 340, f 341, f 342, f 343, f 344, f 345, f 346, f 347, f 348, f 349, f 350, f 351, f 352, f 353, f 354, f 355, f 356, f 357, f 358, f 359, f 360, f 361, f 362, f 363, f 364, f 365, f 366, f 367, f 368], []⟩ w) : Code.wp Tryz.prog c Q ⟨t, []⟩ w := by
 obtain ⟨f, e, hf⟩ := frame369 t h.sz
 have g1 := at_f hf h.t1; have g2 := at_f hf h.t2; have g5 := at_f hf h.t5; have g6 := at_f hf h.t6; have g7 := at_f hf h.t7; have g12 := at_f hf h12
 have := k f
 rw [← g1, ← g2, ← g5, ← g6, ← g7, ← g12] at this
 rw [e]; exact this

theorem steps_layD1 (T : Th) (n : Nat) : ∀ k, Steps n dyn0 (layD1 T k)
 | 0 => Steps.refl _
 | k + 1 => by
  rw [layD1_succ]
  refine (steps_layD1 T n k).trans ?_
  refine Steps.oth ?_ ?_
  ·unfold layRD layB layA; split <;> split <;> rfl
  ·unfold layRD layB layA; split <;> split <;> rfl
theorem ti_dyn0 (n : Nat) : TI n dyn0 := ⟨fun q tag h => (by cases h), fun q tag _ _ => ⟨fun h => (by cases h), fun h => by
 exfalso
 have : (0 : Nat).testBit (tag - 1) = true := h
 rw [Nat.zero_testBit] at this; cases this⟩, List.nodup_nil, fun q => (by show 0 < 16; omega)⟩
def factF (fl : List Nat) (q : Nat) : Bool := decide (q ∈ fl)
def lS1 (T : Th) : Stc := layS1 T T.rules.length
def lD1 (T : Th) : Dyn := layD1 T T.rules.length
def lD2 (T : Th) (fl : List Nat) : Dyn := fl.foldl tell1 (lD1 T)
def lD3 (T : Th) (fl : List Nat) : Dyn := (List.range (lS1 T).m).foldl (tellR (lS1 T)) (lD2 T fl)
def lD4 (T : Th) (fl : List Nat) : Dyn := (List.range T.foes.length).foldl (strD (factF fl)) (lD3 T fl)
def lD5 (T : Th) (fl : List Nat) : Dyn := (List.range T.foes.length).foldl (foesD (lS1 T)) (lD4 T fl)
def lS2 (T : Th) (fl : List Nat) : Stc := pairS (lS1 T) T (lD5 T fl)
def lD6 (T : Th) (fl : List Nat) : Dyn := pairD (lS1 T) T (lD5 T fl)
def lD7 (T : Th) (fl : List Nat) : Dyn := (List.range (lS2 T fl).m).foldl (rule0 (lS2 T fl)) (lD6 T fl)
def lS3 (T : Th) (fl : List Nat) : Stc := { lS2 T fl with first := (lD7 T fl).told.length }
def lD8 (T : Th) (fl : List Nat) : Dyn := { lD7 T fl with upd := 0 }
/-- What lay asks of a theory and facts. -/
structure LayIn (T : Th) (fl : List Nat) : Prop where
 ok : LayOk T
 fn : ∀ x ∈ fl, x < T.foes.length
 pk : PairOk (lS1 T) T (lD5 T fl)
 so : SOk (lS2 T fl)
 sP : (lS2 T fl).P ≤ 65536
def LayEnd (w : World) (T : Th) (fl : List Nat) (v : Value) (w' : World) : Prop :=
 ∃ (W0 : World) (G : Gh), v = .pointer (some ⟨G.b, 0, none⟩) ∧ G.x1 = .no ∧ G.x2 = .no ∧ Below w.heap.size w W0 ∧ Eng w' W0 G (lS3 T fl) T (lD8 T fl)
set_option maxRecDepth 1000000 in
set_option maxHeartbeats 60000000 in
theorem elay_any (w : World) (V vl : Value) (T : Th) (fl : List Nat) (hT : RdTh w V T) (hfl : RdI w vl (fl.map fun (x : Nat) => (x : Int))) (hin : LayIn T fl) :
  Calls Tryz.prog 49 #[V, vl] w (Ret (LayEnd w T fl)) := by
 have hl := hin.ok
 unfold LayEnd
 obtain ⟨vF, vR, vB, rfl, hF, hR, hB⟩ := hT
 have hn4 : T.foes.length ≤ 4096 := hl.st.n4
 have hm4 : T.rules.length ≤ 4096 := hl.st.m4
 have hlits : T.lits = (T.foes.length : Int) := hl.st.lits
 rw [hlits]
 obtain ⟨AR, cR, rfl⟩ : ∃ A c, vR = .slice A T.rules.length c := by
  obtain ⟨A, c, e, _⟩ := hR
  exact ⟨A, c, e⟩
 have hbel := ext_alloc w (.cells #[.int .i64 (T.foes.length : Int), vF, .slice AR T.rules.length cR, vB] 25)
 have Hbox := hid (fun W (h : Below (w.alloc (.cells #[.int .i64 (T.foes.length : Int), vF, .slice AR T.rules.length cR, vB] 25)).heap.size (w.alloc (.cells #[.int .i64 (T.foes.length : Int), vF, .slice AR T.rules.length cR, vB] 25)) W) => box4 h)
 obtain ⟨b0, b1, b2, b3⟩ := Hbox.out _ (ext_refl _)
 refine post_gen fun Q HQ => ?_
 go_enter Tryz.func49, Tryz.ntmps49
 go_wp2
 go_quiet (fail)
 have hld : ∀ W : World, Below ((w.alloc (.cells #[.int .i64 (T.foes.length : Int), vF, .slice AR T.rules.length cR, vB] 25)).drewN nq).heap.size ((w.alloc (.cells #[.int .i64 (T.foes.length : Int), vF, .slice AR T.rules.length cR, vB] 25)).drewN nq) W → (Instr.loadAt 25 (.pointer (some ⟨w.heap.size, 0, none⟩))).run Tryz.prog W = .ok (.agg #[.int .i64 (T.foes.length : Int), vF, .slice AR T.rules.length cR, vB]) W := by
  intro W hW
  obtain ⟨b0, b1, b2, b3⟩ := Hbox.out W ((ext_drewN _ nq).trans hW)
  go_simp
 clear b0 b1 b2 b3
 go_wp2
 refine lay_R2 _ _ T.foes.length T.rules.length _ hn4 hm4 rfl ⟨w.heap.size, 0, none⟩ rfl rfl rfl hld _ ?_
 intro gj w2 hb2 hbk hne
 conv => arg 4; whnf
 rw [show finalT #[.agg #[.int .i64 (T.foes.length : Int), vF, .slice AR T.rules.length cR, vB], vl, .pointer (some ⟨w.heap.size, 0, none⟩), undef, .pointer none, .int .i64 (T.foes.length : Int), .int .i64 (T.rules.length : Int), undef, undef, undef, undef, undef, undef, undef, undef, undef, undef, undef, undef, undef, undef, undef, undef, undef, undef, undef, undef, .pointer (some ⟨w.heap.size, 0, none⟩), .int .i64 (T.foes.length : Int), .pointer (some ⟨w.heap.size, 2, none⟩), .slice AR T.rules.length cR, .int .i64 (T.rules.length : Int), undef, undef, undef, undef, undef, undef, undef, undef, undef, undef, undef, undef, undef, undef, undef, undef, undef, undef, undef, undef, undef, undef, undef, undef, undef, undef, undef, undef, undef, undef, undef, undef, undef, undef, undef, undef, undef, undef, undef, undef, undef, undef, undef, undef, undef, undef, undef, undef, undef, undef, undef, undef, undef, undef, undef, undef, undef, undef, undef, undef, undef, undef, undef, undef, undef, undef, undef, undef, undef, undef, undef, undef, undef, undef, undef, undef, undef, undef, undef, undef, undef, undef, undef, undef, undef, undef, undef, undef, undef, undef, undef, undef, undef, undef, undef, undef, undef, undef, undef, undef, undef, undef, undef, undef, undef, undef, undef, undef, undef, undef, undef, undef, undef, undef, undef, undef, undef, undef, undef, undef, undef, undef, undef, undef, undef, undef, undef, undef, undef, undef, undef, undef, undef, undef, undef, undef, undef, undef, undef, undef, undef, undef, undef, undef, undef, undef, undef, undef, undef, undef, undef, undef, undef, undef, undef, undef, undef, undef, undef, undef, undef, undef, undef, undef, undef, undef, undef, undef, undef, undef, undef, undef, undef, undef, undef, undef, undef, undef, undef, undef, undef, undef, undef, undef, undef, undef, undef, undef, undef, undef, undef, undef, undef, undef, undef, undef, undef, undef, undef, undef, undef, undef, undef, undef, undef, undef, undef, undef, undef, undef, undef, undef, undef, undef, undef, undef, undef, undef, undef, undef, undef, undef, undef, undef, undef, undef, undef, undef, undef, undef, undef, undef, undef, undef, undef, undef, undef, undef, undef, undef, undef, undef, undef, undef, undef, undef, undef, undef, undef, undef, undef, undef, undef, undef, undef, undef, undef, undef, undef, undef, undef, undef, undef, undef, undef, undef, undef, undef, undef, undef, undef, undef, undef, undef, undef, undef, undef, undef, undef, undef, undef, undef, undef, undef, undef, undef, undef, undef, undef, undef, undef, undef, undef, undef, undef, undef, undef, undef, undef, undef, undef, undef, undef, undef, undef, undef, undef, undef, undef, undef, undef, undef, undef, undef, undef, undef, undef, undef, undef, undef, undef, undef, undef, undef, undef, undef, undef, undef, undef, undef, undef, undef, undef, undef, undef, undef, undef] gj T.foes.length T.rules.length (.agg #[.int .i64 (T.foes.length : Int), vF, .slice AR T.rules.length cR, vB]) = #[.agg #[.int .i64 (T.foes.length : Int), vF, .slice AR T.rules.length cR, vB], vl, .pointer (some ⟨w.heap.size, 0, none⟩), undef, .pointer none, .int .i64 (T.foes.length : Int), .int .i64 (T.rules.length : Int), undef, undef, undef, undef, undef, undef, undef, undef, undef, undef, undef, undef, undef, undef, undef, undef, undef, undef, undef, undef, .pointer (some ⟨w.heap.size, 0, none⟩), .int .i64 (T.foes.length : Int), .pointer (some ⟨w.heap.size, 2, none⟩), .slice AR T.rules.length cR, .int .i64 (T.rules.length : Int), .agg #[.int .i64 (T.foes.length : Int), vF, .slice AR T.rules.length cR, vB], .int .i64 (T.foes.length : Int), sl (gj 0) T.foes.length, .int .i64 (T.foes.length : Int), sl (gj 1) T.foes.length, .int .i64 (T.rules.length : Int), sl (gj 2) T.rules.length, .int .i64 (T.rules.length : Int), sl (gj 3) T.rules.length, .int .i64 (T.rules.length : Int), sl (gj 4) T.rules.length, .int .i64 (T.rules.length : Int), sl (gj 5) T.rules.length, .int .i64 (T.foes.length : Int), sl (gj 6) T.foes.length, .int .i64 (T.foes.length : Int), sl (gj 7) T.foes.length, .int .i64 (T.foes.length : Int), sl (gj 8) T.foes.length, .int .i64 (T.foes.length : Int), sl (gj 9) T.foes.length, .int .i64 (T.foes.length : Int), sl (gj 10) T.foes.length, .int .i64 (T.foes.length : Int), sl (gj 11) T.foes.length, .int .i64 (T.foes.length : Int), sl (gj 12) T.foes.length, .int .i64 (T.rules.length : Int), sl (gj 13) T.rules.length, .int .i64 (T.rules.length : Int), sl (gj 14) T.rules.length, undef, undef, undef, undef, undef, undef, undef, undef, undef, undef, undef, undef, undef, undef, undef, undef, undef, undef, undef, undef, undef, undef, undef, undef, undef, undef, undef, undef, undef, undef, undef, undef, undef, undef, undef, undef, undef, undef, undef, undef, undef, undef, undef, undef, undef, undef, undef, undef, undef, undef, undef, undef, undef, undef, undef, undef, undef, undef, undef, undef, undef, undef, undef, undef, undef, undef, undef, undef, undef, undef, undef, undef, undef, undef, undef, undef, undef, undef, undef, undef, undef, undef, undef, undef, undef, undef, undef, undef, undef, undef, undef, undef, undef, undef, undef, undef, undef, undef, undef, undef, undef, undef, undef, undef, undef, undef, undef, undef, undef, undef, undef, undef, undef, undef, undef, undef, undef, undef, undef, undef, undef, undef, undef, undef, undef, undef, undef, undef, undef, undef, undef, undef, undef, undef, undef, undef, undef, undef, undef, undef, undef, undef, undef, undef, undef, undef, undef, undef, undef, undef, undef, undef, undef, undef, undef, undef, undef, undef, undef, undef, undef, undef, undef, undef, undef, undef, undef, undef, undef, undef, undef, undef, undef, undef, undef, undef, undef, undef, undef, undef, undef, undef, undef, undef, undef, undef, undef, undef, undef, undef, undef, undef, undef, undef, undef, undef, undef, undef, undef, undef, undef, undef, undef, undef, undef, undef, undef, undef, undef, undef, undef, undef, undef, undef, undef, undef, undef, undef, undef, undef, undef, undef, undef, undef, undef, undef, undef, undef, undef, undef, undef, undef, undef, undef, undef, undef, undef, undef, undef, undef, undef, undef, undef, undef, undef, undef, undef, undef, undef, undef, undef, undef, undef, undef, undef, undef, undef, undef, undef, undef, undef, undef, undef, undef, undef, undef, undef, undef, undef, undef, undef, undef, undef, undef, undef, undef, undef, undef, undef, undef, undef, undef, undef, undef, undef, undef, undef, undef, undef, undef, undef, undef, undef, undef, undef, undef, undef, undef, undef, undef, undef, undef, undef, undef, undef, undef] from by kernel_rfl]
 rename_i K1 a1
 have HA := hid a1
 clear a1
 have hb0 : Below (w.alloc (.cells #[.int .i64 (T.foes.length : Int), vF, .slice AR T.rules.length cR, vB] 25)).heap.size (w.alloc (.cells #[.int .i64 (T.foes.length : Int), vF, .slice AR T.rules.length cR, vB] 25)) w2 := (ext_drewN _ nq).trans hb2
 have H1 := hid (engStart hl.st (hF.ext llR_mono hbel) (hR.ext ruleR_mono hbel) (hB.ext llR_mono hbel) hb0 hbk hne)
 have Hfl := hid (hfl.ext (scR_mono _) hbel)
 have Hbx : Hid (∀ W : World, Below (w.alloc (.cells #[.int .i64 (T.foes.length : Int), vF, .slice AR T.rules.length cR, vB] 25)).heap.size (w.alloc (.cells #[.int .i64 (T.foes.length : Int), vF, .slice AR T.rules.length cR, vB] 25)) W → W.cell? ⟨w.heap.size, 0, none⟩ = some (.int .i64 (T.foes.length : Int)) ∧ W.cell? ⟨w.heap.size, 1, none⟩ = some vF ∧ W.cell? ⟨w.heap.size, 2, none⟩ = some (.slice AR T.rules.length cR)) := hid fun W h => let ⟨a, b, c, _⟩ := Hbox.out W h; ⟨a, b, c⟩
 have Hbel := hid hbel
 clear hb2 hbk hne hfl hb0 hld hF hR hB hbel Hbox
 go_wp2
 refine HA.out _ _ ?_
 clear HA
 obtain ⟨W0, HW0⟩ : ∃ W0, Hid ((w.alloc (.cells #[.int .i64 (T.foes.length : Int), vF, .slice AR T.rules.length cR, vB] 25)) = W0) := ⟨_, hid rfl⟩
 rw [HW0.out] at H1 Hfl Hbx Hbel
 have Hin := hid hin
 have Hti1 : Hid (TI (lS1 T).n (lD1 T)) := hid ((ti_dyn0 _).steps (steps_layD1 T _ _))
 have Hti2 : Hid (TI (lS1 T).n (lD2 T fl)) := hid (Hti1.out.steps (steps_tells fl _ hin.fn))
 have Hti3 : Hid (TI (lS1 T).n (lD3 T fl)) := hid (Hti2.out.steps (steps_foldl _ _ fun r hr D => steps_tellR (hl.st.hdn r (List.mem_range.1 hr)) D))
 have Hti4 : Hid (TI (lS1 T).n (lD4 T fl)) := hid (Hti3.out.steps (steps_foldl _ _ fun r hr D => steps_strD (show r < (lS1 T).n from List.mem_range.1 hr) D))
 -- the rules
 refine wp_seq_k fun K hK => ?_
 have HK := hid hK
 clear hK
 refine wp_frame369 (vl := vl) (bt := w.heap.size) (n := T.foes.length) (m := T.rules.length) (b := w2.heap.size) ⟨rfl, rfl, rfl, rfl, rfl, rfl⟩ fun f => ?_
 refine lay_s3 _ W0 w2.heap.size w.heap.size (fun k => gj (idxK k)) vF (.slice AR T.rules.length cR) vl T hl ⟨_, _, _, _, _, _, _, H1.out⟩ f Hbx.out K _ ?_
 intro t3 w3 hf3 hl3
 refine HK.out _ _ ?_
 clear HK
 -- the facts' array
 refine wp_seq_k fun K hK => ?_
 have HK := hid hK
 clear hK
 refine wp_frame369 hf3 fun f => ?_
 refine lay_r17 _ W0 _ _ _ vF _ vl T (lS1 T) (lD1 T) hl3 f K _ ?_
 intro t4 w4 gx hf4 h12 hl4
 refine HK.out _ _ ?_
 clear HK
 -- the facts
 refine wp_seq_k fun K hK => ?_
 have HK := hid hK
 clear hK
 refine wp_frame369x hf4 h12 fun f => ?_
 refine lay_s18 _ W0 _ _ _ vF _ vl T (lS1 T) (lD1 T) gx fl hl4 Hti1.out Hfl.out hin.fn f K _ ?_
 intro t5 w5 hf5 h12 hl5
 refine HK.out _ _ ?_
 clear HK
 -- the rules without a body
 refine wp_seq_k fun K hK => ?_
 have HK := hid hK
 clear hK
 refine wp_frame369x hf5 h12 fun f => ?_
 refine lay_s24 _ W0 _ _ _ vF _ vl T (lS1 T) (lD2 T fl) _ _ hl5 Hti2.out Hbx.out f K _ ?_
 intro t6 w6 hf6 h12 hl6
 refine HK.out _ _ ?_
 clear HK
 -- what is no fact
 refine wp_seq_k fun K hK => ?_
 have HK := hid hK
 clear hK
 refine wp_frame369x hf6 h12 fun f => ?_
 refine lay_s30 _ W0 _ _ _ vF _ vl T (lS1 T) (lD3 T fl) gx (factF fl) hl6 Hti3.out Hbx.out f K _ ?_
 intro t7 w7 hf7 hl7
 refine HK.out _ _ ?_
 clear HK
 -- the foes
 refine wp_seq_k fun K hK => ?_
 have HK := hid hK
 clear hK
 refine wp_frame369 hf7 fun f => ?_
 refine lay_s38 _ W0 _ _ _ vF _ vl T (lS1 T) (lD4 T fl) hl7 Hti4.out Hbx.out f K _ ?_
 intro t8 w8 hf8 hl8
 refine HK.out _ _ ?_
 clear HK
 -- the pairs
 refine wp_seq_k fun K hK => ?_
 have HK := hid hK
 clear hK
 refine wp_frame369 hf8 fun f => ?_
 obtain ⟨vB8, vP8, vin8, vof8, vbe8, x28, vT8, h8⟩ := hl8
 have Hpair := hid (epair_any w8 W0 _ _ vF _ vB8 vP8 vin8 vof8 vbe8 (lS1 T) T (lD5 T fl) vT8 h8.dropX2 hin.pk)
 clear h8
 go_wp2_with (go_at_call 89; refine Hpair.out.mono ?_; rintro e w9 ⟨_, rfl, rfl, hp9⟩)
 refine HK.out _ _ ?_
 clear HK
 obtain ⟨vB9, vP9, vin9, vof9, vbe9, vT9, h9⟩ := hp9
 -- what stands at once
 refine wp_seq_k fun K hK => ?_
 have HK := hid hK
 clear hK
 refine wp_frame369 (vl := vl) (bt := w.heap.size) (n := T.foes.length) (m := T.rules.length) (b := w2.heap.size) ⟨rfl, rfl, rfl, rfl, rfl, rfl⟩ fun f => ?_
 refine lay_s50 _ W0 _ _ _ vF _ vl T (lS2 T fl) (lD6 T fl) ⟨_, _, _, _, _, _, _, h9⟩ hin.so hin.sP Hbx.out f K _ ?_
 intro t10 w10 hf10 hl10
 refine HK.out _ _ ?_
 clear HK
 refine wp_frame369 hf10 fun f => ?_
 have hl10 : LayAt w10 W0 w2.heap.size (fun k => gj (idxK k)) .no vF (.slice AR T.rules.length cR) (lS2 T fl) T (lD7 T fl) := hl10
 obtain ⟨vB10, vP10, vin10, vof10, vbe10, x210, vT10, h10⟩ := hl10
 have h11 := h10.dropX2
 obtain ⟨AT, cT, rfl⟩ := own_formP h11.toldOwn
 have e5 := h11.hTold
 have h12 := h11.wFirst (lD7 T fl).told.length
 have e6 : w10.cell? ⟨w2.heap.size, 6, none⟩ = some _ := h11.hFirst
 have f6 : w10.frozen? ⟨w2.heap.size, 6, none⟩ = false := h11.free 6
 have e8 := h11.hUpd
 have f8 : w10.frozen? ⟨w2.heap.size, 8, none⟩ = false := h11.free 8
 have H13 := hid (h12.wUpd 0)
 clear h9 h10 h11 h12
 go_wp2
 go_ret
 exact Fin HQ ⟨W0, _, rfl, rfl, rfl, Hbel.out, _, H13.out⟩
end Go.Proofs.Lx

namespace Go.Proofs.Lx
open Go Go.RowKit Go.Proofs.Tj
set_option linter.unusedSimpArgs false
set_option linter.unusedVariables false

theorem countP_lt {α : Type} {p q : α → Bool} : ∀ {l : List α} {x : α}, (∀ y ∈ l, p y = true → q y = true) → x ∈ l → q x = true → p x = false → l.countP p < l.countP q
 | [], x, _, hx, _, _ => by simp at hx
 | y :: l, x, h, hx, h1, h2 => by
  rw [List.countP_cons, List.countP_cons]
  have hle : l.countP p ≤ l.countP q := List.countP_mono_left fun z hz => h z (List.mem_cons_of_mem _ hz)
  by_cases e : x = y
  ·subst e
   rw [h1, h2]; simp; omega
  ·have hx' : x ∈ l := by simpa [e] using hx
   have ih := countP_lt (fun z hz => h z (List.mem_cons_of_mem _ hz)) hx' h1 h2
   have hy := h y List.mem_cons_self
   cases hp : p y with
   | false => simp; split <;> omega
   | true => rw [hy hp]; simp; omega

section
variable {T : Th} {l : List Int}
theorem row_nat (xs : List (List Int)) (q : Nat) (hq : q < xs.length) : row xs (q : Int) = xs[q] := by simp [row, hq]
theorem mem_heads {q : Nat} {r : Int} (hq : q < T.foes.length) : r ∈ row (rulesRows T.rules T.foes.length T.rules.length) (q : Int) ↔ ∃ i : Nat, i < T.rules.length ∧ r = i ∧ (T.rules.getD i default).head = q := by
 rw [row_nat _ _ (by rw [rulesRows_length]; exact hq), rulesRows_at _ _ _ hq]
 exact mem_rulesUpto
theorem foe_in (hwf : WfTh T) {i : Nat} (hi : i < T.foes.length) {f : Int} (hf : f ∈ T.foes[i]) : ∃ j : Nat, j < T.foes.length ∧ f = j ∧ j ≠ i ∧ (i : Int) ∈ row T.foes (j : Int) := by
 obtain ⟨h1, h2, h3, h4⟩ := foesOk_spec hwf.fo i hi
 obtain ⟨a, ha, e⟩ := List.getElem_of_mem hf
 have hb := (risB_spec h2).1 a ha
 rw [e] at hb
 have hfl := hwf.fl
 refine ⟨f.toNat, by omega, by omega, ?_, ?_⟩
 ·intro e2
  apply memB_false.1 h3
  have : (i : Int) = f := by omega
  rw [this]; exact hf
 ·have := memB_true.1 (h4 f hf)
  rw [show ((f.toNat : Nat) : Int) = f by omega]
  exact this
open Classical in
theorem no_chain (hwf : WfTh T) (C : Nat → Prop) (hC : ∀ s, C s → s < T.rules.length ∧ ∃ r, C r ∧ r ≠ s ∧ s ∈ adjN (beatsAt T) r) : ∀ N s, ((List.range T.rules.length).countP fun y => decide (Leads (adjN (beatsAt T)) y s)) ≤ N → ¬ C s := by
 intro N
 induction N with
 | zero =>
  intro s hs hc
  obtain ⟨hlt, _⟩ := hC s hc
  have : 0 < (List.range T.rules.length).countP fun y => decide (Leads (adjN (beatsAt T)) y s) := List.countP_pos_iff.2 ⟨s, List.mem_range.2 hlt, by simp [Leads.refl]⟩
  omega
 | succ N ih =>
  intro s hs hc
  obtain ⟨hlt, r, hr, hne, he⟩ := hC s hc
  have hrl := (hC r hr).1
  refine ih r ?_ hr
  have : ((List.range T.rules.length).countP fun y => decide (Leads (adjN (beatsAt T)) y r)) < ((List.range T.rules.length).countP fun y => decide (Leads (adjN (beatsAt T)) y s)) := by
   refine countP_lt (x := s) (fun y _ hy => ?_) (List.mem_range.2 hlt) (by simp [Leads.refl]) ?_
   ·rw [decide_eq_true_eq] at hy ⊢
    exact .step hy he
   ·rw [decide_eq_false_iff_not]
    intro hsr
    exact hne (hwf.nk r s hrl hlt (Leads.edge he) hsr)
  omega
theorem consist (hwf : WfTh T) {i j : Nat} (hi : i < T.foes.length) (hj : (j : Int) ∈ T.foes[i])
  (h2i : hasM (solveM T l) 2 (i : Int) = true) (h2j : hasM (solveM T l) 2 (j : Int) = true) : hasM (solveM T l) 0 (i : Int) = true ∧ hasM (solveM T l) 0 (j : Int) = true := by
 obtain ⟨j', hjn, e, hne, hij⟩ := foe_in hwf hi hj
 obtain rfl : j = j' := by omega
 have hm := solve_made T l
 have hji : (j : Int) ∈ row T.foes (i : Int) := by rw [row_nat _ _ hi]; exact hj
 have Pi := hm.sup 2 _ (by omega) h2i
 have Pj := hm.sup 2 _ (by omega) h2j
 rw [Int.toNat_natCast, plusP_iff] at Pi Pj
 rcases Pi with Pi | ⟨⟨ri, hri, hsi, hwi⟩, hfi, hai⟩
 ·refine ⟨Pi, ?_⟩
  rcases Pj with Pj | ⟨_, hfj, _⟩
  ·exact Pj
  ·exact absurd ⟨Pi, hfj _ hij⟩ (hm.coh _).1
 ·rcases Pj with Pj | ⟨⟨rj, hrj, hsj, hwj⟩, hfj, haj⟩
  ·exact absurd ⟨Pj, hfi _ hji⟩ (hm.coh _).1
  ·exfalso
   obtain ⟨a, ha, rfl, hah⟩ := (mem_heads hi).1 hri
   refine no_chain hwf (fun s => s < T.rules.length ∧ ((T.rules.getD s default).head = i ∨ (T.rules.getD s default).head = j) ∧ supB T (s : Int) = true ∧ wholeB T (solveM T l) 2 (s : Int) = true) ?_ _ a (Nat.le_refl _) ⟨ha, .inl hah, hsi, hwi⟩
   rintro s ⟨hs, hh, hss, hsw⟩
   refine ⟨hs, ?_⟩
   have edge : ∀ r : Nat, beatsB T (r : Int) (s : Int) = true → s ∈ adjN (beatsAt T) r := by
    intro r hb
    have h1 : (s : Int) ∈ T.beats.getD r [] := memB_true.1 hb
    exact List.mem_map.2 ⟨_, h1, by simp⟩
   rcases hh with hh | hh
   ·have hsr := (mem_heads hi).2 ⟨s, hs, rfl, hh⟩
    rcases haj _ hij _ hsr with h | ⟨r, hr, h1, h2, h3⟩
    ·exact ((whole_some hm.coh).2 hsw h).elim
    ·obtain ⟨b, hb, rfl, hbh⟩ := (mem_heads hjn).1 hr
     exact ⟨b, ⟨hb, .inr hbh, h1, h3⟩, fun e => by subst e; omega, edge _ h2⟩
   ·have hsr := (mem_heads hjn).2 ⟨s, hs, rfl, hh⟩
    rcases hai _ hji _ hsr with h | ⟨r, hr, h1, h2, h3⟩
    ·exact ((whole_some hm.coh).2 hsw h).elim
    ·obtain ⟨b, hb, rfl, hbh⟩ := (mem_heads hi).1 hr
     exact ⟨b, ⟨hb, .inl hbh, h1, h3⟩, fun e => by subst e; omega, edge _ h2⟩
end
end Go.Proofs.Lx

namespace Go.Proofs.Lx
open Go Go.RowKit Go.Proofs.Tj
set_option linter.unusedVariables false
theorem ris_nat {l : List Int} {N : Int} (h : risB l N = true) : (l.map Int.toNat).Nodup ∧ (∀ x ∈ l.map Int.toNat, (x : Int) < N) ∧ l = (l.map Int.toNat).map (fun (x : Nat) => (x : Int)) ∧ ∀ x ∈ l, 0 ≤ x ∧ x < N := by
 obtain ⟨h1, h2⟩ := risB_spec h
 have hb : ∀ x ∈ l, 0 ≤ x ∧ x < N := fun x hx => by
  obtain ⟨i, hi, e⟩ := List.getElem_of_mem hx
  rw [← e]; exact h1 i hi
 refine ⟨?_, fun x hx => ?_, ?_, hb⟩
 ·rw [List.nodup_iff_pairwise_ne, List.pairwise_map]
  refine (List.Pairwise.and_mem.1 h2).imp ?_
  rintro a b ⟨ha, hb2, hab⟩
  have := (hb a ha).1; have := (hb b hb2).1
  omega
 ·obtain ⟨y, hy, rfl⟩ := List.mem_map.1 hx
  have := hb y hy; omega
 ·rw [List.map_map]
  apply List.ext_getElem
  ·simp
  ·intro i h1 h2
   have := (hb _ (List.getElem_mem h1)).1
   simp only [List.getElem_map, Function.comp]; omega
theorem lay_ok {T : Th} (hwf : WfTh T) : LayOk T := by
 have hfl := hwf.fl
 have hl1 := hwf.l1
 have hrl := hwf.rl
 have hget : ∀ r (h : r < T.rules.length), T.rules.getD r default = T.rules[r] := fun r h => by simp [h]
 have hgetF : ∀ q (h : q < T.foes.length), T.foes.getD q [] = T.foes[q] := fun q h => by simp [h]
 have hru : ∀ r (h : r < T.rules.length), 1 ≤ T.rules[r].kind ∧ T.rules[r].kind ≤ 3 ∧ 0 ≤ T.rules[r].head ∧ T.rules[r].head < T.lits ∧ T.rules[r].body.length ≤ 16 ∧ risB T.rules[r].body T.lits = true := fun r h => by
  have := hwf.ru _ (List.getElem_mem h)
  simp only [ruleOk, Bool.and_eq_true, decide_eq_true_eq] at this
  obtain ⟨⟨⟨⟨⟨a, b⟩, c⟩, d⟩, e⟩, f⟩ := this
  exact ⟨a, b, c, d, e, f⟩
 refine ⟨⟨rfl, hfl.symm, rfl, hwf.bl, ?_, ?_, ?_, ?_, ?_, hrl, ?_, ?_, ?_⟩, ?_⟩
 ·intro r h; show _ = (T.rules.getD r default).kind; rw [hget r h]
 ·intro r h
  show _ = (((T.rules.getD r default).head.toNat : Nat) : Int)
  rw [hget r h]; have := (hru r h).2.2.1; omega
 ·intro r h; show _ = (T.rules.getD r default).body.length; rw [hget r h]
 ·intro q h
  show _ = ((T.foes.getD q []).map Int.toNat).map _
  rw [hgetF q h]
  exact (ris_nat (foesOk_spec hwf.fo q h).2.1).2.2.1
 ·show T.foes.length ≤ 4096; omega
 ·intro r h
  have h : r < T.rules.length := h
  show (T.rules.getD r default).head.toNat < T.foes.length
  rw [hget r h]; have := (hru r h).2.2.2.1; have := (hru r h).2.2.1; omega
 ·intro q h f hf
  have h : q < T.foes.length := h
  have hf : f ∈ (T.foes.getD q []).map Int.toNat := hf
  rw [hgetF q h] at hf
  have := (ris_nat (foesOk_spec hwf.fo q h).2.1).2.1 f hf
  show f < T.foes.length; omega
 ·intro r h
  have h : r < T.rules.length := h
  show (T.rules.getD r default).body.length ≤ 16
  rw [hget r h]; exact (hru r h).2.2.2.2.1
 ·intro r h x hx
  have := (ris_nat (hru r h).2.2.2.2.2).2.2.2 x hx
  omega
end Go.Proofs.Lx

namespace Go.Proofs.Lx
open Go Go.RowKit Go.Proofs.Tj
set_option linter.unusedVariables false
theorem innAdd_fold (r b : Nat) : ∀ (l : List Nat) (I : Nat → List Nat), (l.foldl (innAdd r) I) b = I b ++ List.replicate (l.count b) r
 | [], I => by simp
 | x :: l, I => by
  rw [List.foldl_cons, innAdd_fold r b l]
  show Tj.upd I x (I x ++ [r]) b ++ _ = _
  by_cases e : b = x
  ·subst e
   rw [Tj.upd_same, List.count_cons_self, List.replicate_succ, List.append_assoc]; rfl
  ·rw [Tj.upd_ne e, List.count_cons_of_ne (fun k => e k.symm)]
section
variable {T : Th}
theorem bdy_nodup (hwf : WfTh T) {r : Nat} (hr : r < T.rules.length) : (bdyT T r).Nodup := by
 have e : T.rules.getD r default = T.rules[r] := by simp [hr]
 unfold bdyT; rw [e]
 have := hwf.ru _ (List.getElem_mem hr)
 simp only [ruleOk, Bool.and_eq_true] at this
 exact (ris_nat this.2).1
theorem innL_step (T : Th) (k b : Nat) : innL T (k + 1) b = innL T k b ++ List.replicate ((bdyT T k).count b) k := innAdd_fold k b _ _
theorem innL_mem (hwf : WfTh T) (b : Nat) : ∀ k, k ≤ T.rules.length → (∀ r, r ∈ innL T k b ↔ r < k ∧ b ∈ bdyT T r) ∧ (innL T k b).Nodup
 | 0, _ => ⟨fun r => by simp [innL], by simp [innL]⟩
 | k + 1, hk => by
  obtain ⟨h1, h2⟩ := innL_mem hwf b k (by omega)
  have hn := bdy_nodup hwf (show k < T.rules.length by omega)
  rw [innL_step]
  by_cases hb : b ∈ bdyT T k
  ·rw [show (bdyT T k).count b = 1 by have h5 := List.nodup_iff_count.1 hn b; have h6 := List.count_pos_iff.2 hb; omega]
   refine ⟨fun r => ?_, ?_⟩
   ·rw [List.mem_append, h1 r]
    simp only [List.replicate_one, List.mem_singleton]
    constructor
    ·rintro (⟨a, c⟩ | rfl)
     ·exact ⟨by omega, c⟩
     ·exact ⟨by omega, hb⟩
    ·rintro ⟨a, c⟩
     by_cases e : r = k
     ·exact .inr e
     ·exact .inl ⟨by omega, c⟩
   ·rw [List.nodup_append]
    refine ⟨h2, by simp, fun x hx y hy e => ?_⟩
    simp only [List.replicate_one, List.mem_singleton] at hy
    have := ((h1 x).1 hx).1
    omega
  ·rw [List.count_eq_zero.2 hb]
   refine ⟨fun r => ?_, by simpa using h2⟩
   simp only [List.replicate_zero, List.append_nil]
   rw [h1 r]
   constructor
   ·rintro ⟨a, c⟩; exact ⟨by omega, c⟩
   ·rintro ⟨a, c⟩
    refine ⟨?_, c⟩
    rcases Nat.lt_or_ge r k with e | e
    ·exact e
    ·have : r = k := by omega
     rw [this] at c; exact absurd c hb
end
end Go.Proofs.Lx
