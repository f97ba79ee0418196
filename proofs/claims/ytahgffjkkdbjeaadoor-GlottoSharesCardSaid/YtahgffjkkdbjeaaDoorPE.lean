/- Plain: what the example's answers are. -/
import Derived.Test.YtahgffjkkdbjeaaDoorP9
import Derived.Test.YtahgffjkkdbjeaaDoorP7
import Derived.Test.YtahgffjkkdbjeaaDoorWD
import Derived.Test.YtahgffjkkdbjeaaDoorWG
import Derived.KernelRfl
namespace Go.Proofs.YtahgffjkkdbjeaaDoor
open Go.RowKit
theorem three_scaled : scaledS 3 threeL = .ok 1 := by kernel_rfl
theorem three_rank : rankE 3 threeL 2 = .ok 1 := rankE_ok three_scaled (by omega) (by omega)
theorem three_ultra : ultraS 3 threeL = (false, 0) := by kernel_rfl
theorem three_dist (i j : Nat) : dist threeL 1 3 i j = scK threeL 1 (i * 3 + j) := rfl
def threeM : List Mg := [((0, 1), (2, 1), 2), ((0, 2), (7, 1), 3)]
theorem three_prs : prs (aloneS 3) 3 3 = [(0, 1), (0, 2), (1, 2)] := by kernel_rfl
theorem three_prs2 : prs (joinS (aloneS 3) 0 1) 3 3 = [(0, 2)] := by kernel_rfl
theorem three_run (g : Nat → Nat) (h : ∀ i j, i < 3 → j < 3 → g (i * 24 + j) = dist threeL 1 3 i j) : (mRun 3 1 g 2).l = threeM := by
  have g1 : g 1 = 2 := (h 0 1 (by omega) (by omega)).trans (by kernel_rfl)
  have g2 : g 2 = 6 := (h 0 2 (by omega) (by omega)).trans (by kernel_rfl)
  have g26 : g 26 = 8 := (h 1 2 (by omega) (by omega)).trans (by kernel_rfl)
  have p1 : mPick 3 (aloneS 3) g = (0, 1) := by
    rw [mPick, three_prs]
    simp [bestP, stepB, nearB, cnt, aloneS, g1, g2, g26]
  have j2 : jw g 0 1 24 2 = g 2 + g 26 := by kernel_rfl
  have p2 : mPick 3 (joinS (aloneS 3) 0 1) (jw g 0 1 24) = (0, 2) := by
    rw [mPick, three_prs2]
    simp [bestP, stepB]
  have e1 : mgOf 1 (aloneS 3) g (0, 1) = ((0, 1), (2, 1), 2) := by
    simp only [mgOf, g1]
    kernel_rfl
  have e2 : mgOf 1 (joinS (aloneS 3) 0 1) (jw g 0 1 24) (0, 2) = ((0, 2), (7, 1), 3) := by
    simp only [mgOf, Nat.zero_mul, Nat.zero_add, j2, g2, g26]
    kernel_rfl
  simp only [mRun, p1, p2, e1, e2, threeM, List.nil_append, List.cons_append]
theorem three_near (f : Nat → Nat) (h : RkRow threeL 1 3 2 f) : nearV f 3 2 = 0 := by
  have k0 : dist threeL 1 3 2 0 = 6 := by kernel_rfl
  have k1 : dist threeL 1 3 2 1 = 8 := by kernel_rfl
  have k2 : dist threeL 1 3 2 2 = 0 := by kernel_rfl
  have b0 := h.lt (p := 0) (by omega)
  have b1 := h.lt (p := 1) (by omega)
  have b2 := h.lt (p := 2) (by omega)
  have s01 := h.srt 0 1 (by omega) (by omega) (by omega)
  have s12 := h.srt 1 2 (by omega) (by omega) (by omega)
  unfold ltK at s01 s12
  have cs : ∀ x, x < 3 → x = 0 ∨ x = 1 ∨ x = 2 := fun x hx => by omega
  rw [nearV, if_neg (by omega)]
  rcases cs _ b0 with e0 | e0 | e0 <;> rcases cs _ b1 with e1 | e1 | e1 <;> rcases cs _ b2 with e2 | e2 | e2 <;> simp only [e0, e1, e2, k0, k1, k2] at s01 s12 ⊢ <;> first | omega | simp
def threeN : List ByteArray := [⟨#[120]⟩, ⟨#[121]⟩, ⟨#[122]⟩]
def threeT : List Nd := [(-1, ⟨#[109, 49]⟩), (0, ⟨#[109, 48]⟩), (1, ⟨#[120]⟩), (1, ⟨#[121]⟩), (0, ⟨#[122]⟩)]
theorem inn0 : innS 0 = ⟨#[109, 48]⟩ := by
  rw [innS, Lib.decDigits, dif_pos (by omega)]; rfl
theorem inn1 : innS 1 = ⟨#[109, 49]⟩ := by
  rw [innS, Lib.decDigits, dif_pos (by omega)]; rfl
theorem three_steps : StepsOk 3 threeM := by
  have : decide (StepsOk 3 threeM) = true := by kernel_rfl
  exact of_decide_eq_true this
theorem three_names : NamesOk threeN := by
  have : decide (NamesOk threeN) = true := by kernel_rfl
  exact of_decide_eq_true this
theorem three_have : HaveOk threeN 2 := by
  intro i hi
  have : i = 0 ∨ i = 1 ∨ i = 2 := by have : i < 3 := hi; omega
  rcases this with rfl | rfl | rfl <;> (simp only [hvN, hvI, updS, inn0, inn1]; decide)
theorem three_treeE : treeE 3 threeN threeM = 0 := by
  rw [treeE, if_neg (by omega), if_neg (fun h => h ⟨rfl, three_steps⟩), if_neg (fun h => h three_names), if_neg (fun h => h three_have)]
theorem three_tree : treeL 3 threeN threeM = threeT := by
  rw [treeL, if_pos three_treeE]
  have e : plantL (nmOf threeN) (belK threeM threeM.length) 25 (-1) (nowK threeM threeM.length 0) 0 = [(-1, innS 1), (0, innS 0), (1, ⟨#[120]⟩), (1, ⟨#[121]⟩), (0, ⟨#[122]⟩)] := by kernel_rfl
  rw [e, inn0, inn1]
  rfl
def threeR : List (List Int) := [[0, 0, 1], [0, -1, 0], [2, 2, 2]]
theorem three_sharesE : sharesE threeR = .ok 3 := by kernel_rfl
theorem three_shares : (shL threeR 3).length = 9 ∧ fN (shL threeR 3) 2 = 2 ∧ fD (shL threeR 3) 2 = 3 := ⟨by kernel_rfl, by kernel_rfl, by kernel_rfl⟩
end Go.Proofs.YtahgffjkkdbjeaaDoor
