/- phylo.Largest at every table. -/
import Derived.Test.YtnabbmdhhddfbaaDoorB6
import Derived.Laws.EntriesVeiled
namespace Go.Proofs.YtnabbmdhhddfbaaDoor
open Go Go.RowKit Go.Shelf
def lgE (L : Int) (l : List Nat) : Int := if chkT L l ≠ 0 then chkT L l else if 12 < l.length then 12 else 0
def lgL (L : Int) (l : List Nat) : List Nat := if lgE L l = 0 then bigL l else []
/-- What Largest answers. -/
def LgPost (w : World) (L : Int) (l : List Nat) (e : Ending) (w' : World) : Prop :=
  ∃ v, e = .returned (.tuple #[v, .int .i64 (lgE L l)]) ∧ w'.ownsRow w.heap.size 3 1 v (lgL L l).length (fl encI (iN (lgL L l))) ∧ Below w.heap.size w w'
theorem lgPost_nil {w w' : World} {L : Int} {l : List Nat} {E : Int} (hE : lgE L l = E) (h0 : E ≠ 0) (hbl : Below w.heap.size w w') : LgPost w L l (.returned (.tuple #[.slice none 0 0, .int .i64 E])) w' := by
  refine ⟨_, by rw [hE], ?_, hbl⟩
  unfold lgL
  rw [if_neg (by rw [hE]; exact h0)]
  exact World.ownsRow_nil _ _ _ _
set_option maxRecDepth 100000 in
set_option maxHeartbeats 4000000 in
theorem largest_any (L : Int) (a : Option Addr) (N c : Nat) (l : List Nat) (w : World) (hl : l.length = N) (hN : N ≤ 1152921504606846976) (hA : Rd w a (fl encV l)) (hF : FitV l) :
    Calls Tryd.prog 21 #[.agg #[.int .i64 L, .slice a N c]] w (LgPost w L l) := by
  have hb0 := bl_alloc (Below.refl _ w) (.cells #[.int .i64 L, .slice a N c] 24)
  have hB := Blk.new w #[.int .i64 L, .slice a N c] 24
  have HL := Lib.hid hl
  have HF := Lib.hid hF
  have HC := Lib.hid (tchk_any L a N c l (w.alloc (.cells #[.int .i64 L, .slice a N c] 24)) hl hN (hA.bl hb0) hF)
  have HA := Lib.hid (hA.bl hb0)
  have HNA : Hid (0 < l.length → ∀ b o, a = some ⟨b, o, none⟩ → b < w.heap.size) := fun h0 b o e => by
    obtain ⟨b', o', e', hb, _⟩ := hA (by rw [fl_length encV_len]; omega)
    rw [e] at e'
    have := (Addr.mk.inj (Option.some.inj e')).1
    omega
  clear hl hA hF
  obtain ⟨X, hX⟩ : ∃ X, X = w.heap.size := ⟨_, rfl⟩
  go_enter Tryd.func21, Tryd.ntmps21
  go_wp2_with fail
  refine HC.out.mono ?_
  rintro e w2 ⟨rfl, hb2⟩
  have hb3 := bl_trans hb0 hb2
  have hB2 := hB.below hb2
  have HA2 := Lib.hid (HA.out.bl hb2)
  rw [← hX] at hB2 ⊢
  have HB3 := Lib.hid hb3
  have e1 : w2.cell? ⟨X, 1, none⟩ = some (.slice a N c) := hB2.cell 1
  have HBX := Lib.hid hB2
  have HX := Lib.hid hX
  clear hX hB2 hb3 hB hb0 hb2 HA HC
  by_cases h0 : chkT L l = 0
  · have HE : Hid (lgE L l = if 12 < l.length then 12 else 0) := if_neg (fun h => h h0)
    obtain ⟨M, rfl⟩ : ∃ M : Nat, L = M := by
      refine ⟨L.toNat, ?_⟩
      unfold chkT at h0
      by_cases q : L < 0 ∨ 32 < L
      · rw [if_pos q] at h0; omega
      · omega
    rw [h0]
    clear h0
    by_cases h12 : 12 < N
    · have d1 : decide (12 < N) = true := by simpa using h12
      have hE : Hid (lgE (M : Int) l = 12) := by show _ = _; rw [HE.out, if_pos (by rw [HL.out]; exact h12)]
      clear HE
      go_wp2_with fail
      exact bodyPost_ret (v := .tuple #[.slice none 0 0, .int .i64 12]) (by simp [results, Tryd.results21, go_sem]) rfl (lgPost_nil hE.out (by omega) HB3.out)
    · have d1 : decide (12 < N) = false := by simpa using h12
      have hE : Hid (lgE (M : Int) l = 0) := by show _ = _; rw [HE.out, if_neg (by rw [HL.out]; exact h12)]
      have hLL : Hid (lgL (M : Int) l = bigL l) := if_pos hE.out
      have hN12 : N ≤ 12 := by omega
      clear HE h12
      go_upto_region 8 with fail
      have hb4 := bl_alloc (bl_alloc (Below.refl _ w2) (.cells #[.slice none 0 0] 38)) (.cells #[.nilFunc] 74)
      have b5 := (Blk.new w2 #[.slice none 0 0] 38).alloc (.cells #[.nilFunc] 74)
      have b6 := Blk.new2 w2 (.cells #[.slice none 0 0] 38) #[.nilFunc] 74
      obtain ⟨H, hH⟩ : ∃ x, x = w2.heap.size := ⟨_, rfl⟩
      obtain ⟨w4, hw4⟩ : ∃ x, x = (w2.alloc (.cells #[.slice none 0 0] 38)).alloc (.cells #[.nilFunc] 74) := ⟨_, rfl⟩
      rw [← hw4] at hb4 b5 b6 ⊢
      rw [← hH] at b5 b6 ⊢
      have hXH : X < H := by rw [hH]; exact HBX.out.lt
      have hwH : w.heap.size ≤ H := by rw [hH]; exact HB3.out.size
      have bX := HBX.out.below hb4
      have HR4 := Lib.hid (HA2.out.bl hb4)
      have HB4 := Lib.hid (bl_trans HB3.out hb4)
      have c6 : w4.cell? ⟨H + 1, 0, none⟩ = some .nilFunc := b6.cell 0
      have f6 : w4.frozen? ⟨H + 1, 0, none⟩ = false := b6.free 0
      have B5 := Lib.hid b5
      have B6 := Lib.hid b6
      have BX := Lib.hid bX
      clear hw4 hH hb4 b5 b6 bX HA2 e1 HBX HB3
      go_upto_region 9 with fail
      have hb5 : Below w.heap.size w (w4.setCell ⟨H + 1, 0, none⟩ (.func (.func 45) #[] #[.pointer (some ⟨H, 0, none⟩), .pointer (some ⟨X, 0, none⟩), .pointer (some ⟨H + 1, 0, none⟩)])) := bl_set HB4.out _ _ _ _ (by omega)
      have hS : LgS (w4.setCell ⟨H + 1, 0, none⟩ (.func (.func 45) #[] #[.pointer (some ⟨H, 0, none⟩), .pointer (some ⟨X, 0, none⟩), .pointer (some ⟨H + 1, 0, none⟩)])) w.heap.size H X (H + 1) M a N c l [] (.slice none 0 0) :=
        ⟨B5.out.other (by omega) 0 _, BX.out.other (by omega) 0 _, B6.out.set 0 _, World.ownsRow_nil _ _ _ _, fun h0 => rd_block HR4.out (by simp [World.setCell]) (fun b o e hlt => Below.heap_setCell _ _ _ b (show b ≠ H + 1 by
          have := HNA.out (by rw [fl_length encV_len] at h0; omega) b o e; omega)) h0, HNA.out, (by intro e; cases e), (by intro e; cases e), (by intro e; cases e), hwH, by have := HX.out; omega, by omega, by omega, by omega⟩
      have c7 : (w4.setCell ⟨H + 1, 0, none⟩ (.func (.func 45) #[] #[.pointer (some ⟨H, 0, none⟩), .pointer (some ⟨X, 0, none⟩), .pointer (some ⟨H + 1, 0, none⟩)])).cell? ⟨H + 1, 0, none⟩ = some (.func (.func 45) #[] #[.pointer (some ⟨H, 0, none⟩), .pointer (some ⟨X, 0, none⟩), .pointer (some ⟨H + 1, 0, none⟩)]) := (B6.out.set 0 _).cell 0
      obtain ⟨w5, hw5⟩ : ∃ x, x = w4.setCell ⟨H + 1, 0, none⟩ (.func (.func 45) #[] #[.pointer (some ⟨H, 0, none⟩), .pointer (some ⟨X, 0, none⟩), .pointer (some ⟨H + 1, 0, none⟩)]) := ⟨_, rfl⟩
      rw [← hw5] at hb5 hS c7 ⊢
      have HC := Lib.hid (ext_any w.heap.size H X (H + 1) M a N c l HL.out hN12 HF.out N [] (.slice none 0 0) [] (.slice none 0 0) w5 hS (World.ownsRow_nil _ _ _ _) (by intro e; cases e) (by intro e; cases e) (by intro e; cases e) (.inl rfl) (by simp) (by simp [frm]) (by simp) hb5.size)
      have HB5 := Lib.hid hb5
      clear hw5 hb5 hS c6 f6 B5 B6 BX HR4 HB4
      go_wp2_with fail
      refine HC.out.mono ?_
      rintro e w6 ⟨rfl, vb, hS6, h91, h92, hk6⟩
      have hgo : goB l N [] (updL [] []) = bigL l := by unfold bigL; rw [HL.out]; rfl
      rw [hgo] at hS6
      obtain ⟨Z, hZ⟩ : ∃ x, x = bigL l := ⟨_, rfl⟩
      rw [← hZ] at hS6 hLL
      obtain ⟨A, cp, hvb, h93⟩ := owns_slice hS6.rb
      subst hvb
      have HRB := Lib.hid hS6.rb
      have HB6 := Lib.hid (hk6.bel w HB5.out (Nat.le_refl _))
      obtain ⟨z, hz⟩ : ∃ x, x = Z.length := ⟨_, rfl⟩
      have e6 : w6.cell? ⟨H, 0, none⟩ = some (.slice A Z.length cp) := hS6.bb.cell 0
      rw [← hz] at e6 HRB
      have HZ := Lib.hid hz
      clear hS6 hk6 c7 h91 h92 h93 hgo hZ hz
      go_wp2_with fail
      exact bodyPost_ret (v := .tuple #[.slice A z cp, .int .i64 0]) (by simp [results, Tryd.results21, go_sem]) rfl ⟨_, by rw [hE.out], by rw [hLL.out, ← HZ.out]; exact HRB.out, HB6.out⟩
  · have hE : Hid (lgE L l = chkT L l) := if_pos h0
    obtain ⟨E, hEE⟩ : ∃ E, chkT L l = E := ⟨_, rfl⟩
    rw [hEE] at hE h0 ⊢
    have d0 : (E == 0) = false := by simp [h0]
    have d1 : (E != 0) = true := by simp [h0]
    have h00 := Lib.hid h0
    clear hEE h0
    go_wp2_with fail
    exact bodyPost_ret (v := .tuple #[.slice none 0 0, .int .i64 E]) (by simp [results, Tryd.results21, go_sem]) rfl (lgPost_nil hE.out h00.out HB3.out)
end Go.Proofs.YtnabbmdhhddfbaaDoor
