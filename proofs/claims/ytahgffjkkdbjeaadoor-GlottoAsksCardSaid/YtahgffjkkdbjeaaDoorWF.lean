/- ablautref35.Nearest. -/
import Derived.Test.YtahgffjkkdbjeaaDoorWE
import Derived.Test.YtahgffjkkdbjeaaDoorWD
namespace Go.Proofs.YtahgffjkkdbjeaaDoor
open Go.RowKit
/-- The cells of a row of numbers of the call's own. -/
theorem rowL_cells {w : World} {base : Nat} {v : Value} {m : Nat} {f : Nat → Nat} (h : w.ownsRow base 3 1 v m (fl encI (rowL f m))) (hm : 1 ≤ m) : ∃ g cap, v = .slice (some ⟨g, 0, none⟩) m cap ∧ base ≤ g ∧ g < w.heap.size ∧ ∀ k, k < m → w.cell? ⟨g, k, none⟩ = some (.int .i64 (f k : Int)) := by
  obtain ⟨a, cap, rfl, h0 | ⟨g, h1, h2, rfl⟩⟩ := owns_slice h
  · omega
  · refine ⟨g, cap, rfl, h1, h2, fun k hk => ?_⟩
    obtain ⟨b2, o2, e2, _, hc2⟩ := rdI (rd_of_owns h) (by rw [rowL_len]; omega)
    have e2 := Option.some.inj e2
    have h2 := hc2 k (by rw [rowL_len]; exact hk)
    rw [rowL_at f hk] at h2
    have h3 : (⟨b2, o2 + k, none⟩ : Addr) = ⟨g, k, none⟩ := by
      have e3 := congrArg Addr.block e2
      have e4 := congrArg Addr.off e2
      simp only at e3 e4
      rw [← e3, ← e4, Nat.zero_add]
    rw [← h3]; exact h2
set_option maxRecDepth 100000 in
set_option maxHeartbeats 4000000 in
theorem rnear_any (a : Option Addr) (n x : Int) (N c : Nat) (d : List Fr) (w : World) (hn1 : -9223372036854775808 ≤ n) (hn2 : n ≤ 9223372036854775807) (hx1 : -9223372036854775808 ≤ x) (hx2 : x ≤ 9223372036854775807) (hd : d.length = N) (hN : N ≤ 1152921504606846976) (hA : Rd w a (fl encFr d)) (hok : FitFr d) :
    Calls Tryd.prog 18 #[.int .i64 n, .slice a N c, .int .i64 x] w (NrPost w n d x) := by
  have HD := Lib.hid hd
  have HK := Lib.hid hok
  clear hd hok
  go_enter Tryd.func18, Tryd.ntmps18
  go_wp2_with fail
  refine (rrank_any a n x N c d _ hn1 hn2 hx1 hx2 HD.out hN hA HK.out).mono ?_
  rintro e w1 ⟨hb1, ⟨k, hk, rfl⟩ | ⟨m, cm, y, v, f, rfl, rfl, hy, hm2, hs, rfl, hown, hr⟩⟩
  · have hs := Lib.hid hk
    have hk0 := rankE_ne hk
    clear hk
    go_wp2_with fail
    go_ret2
    exact ⟨hb1, .inl ⟨k, hs.out, rfl⟩⟩
  · have HS := Lib.hid hs
    have HR := Lib.hid hr
    obtain ⟨g, cap, rfl, _, _, hc⟩ := rowL_cells hown (by omega)
    have c0 := hc 0 (by omega)
    have hpost : Hid (∀ z t : Int, z = nearV f m y → t = nearE m → NrPost w m d y (.returned (.tuple #[.int .i64 z, .int .i64 t])) w1) := fun z t hz ht => ⟨hb1, .inr ⟨m, cm, y, f, rfl, rfl, hy, HS.out, by rw [hz, ht], HR.out⟩⟩
    clear hs hr hown
    by_cases e1 : m = 1
    · have hm : ((m : Int) == 1) = true := by simp; omega
      have h := Lib.hid (hpost.out 0 5 (by rw [nearV, if_pos e1]; rfl) (by rw [nearE, if_pos e1]))
      clear e1 hc c0
      go_wp2_with fail
      go_ret2
      exact h.out
    · have hm : ((m : Int) == 1) = false := by simp; omega
      have c1 := hc 1 (by omega)
      clear hc
      by_cases e2 : f 0 = y
      · have hq : ((f 0 : Int) == (y : Int)) = true := by simp; omega
        have h := Lib.hid (hpost.out (f 1) 0 (by rw [nearV, if_neg e1, if_pos e2]) (by rw [nearE, if_neg e1]))
        generalize f 0 = z0 at *
        generalize f 1 = z1 at *
        clear e2
        go_wp2_with fail
        go_ret2
        exact h.out
      · have hq : ((f 0 : Int) == (y : Int)) = false := by simp; omega
        have h := Lib.hid (hpost.out (f 0) 0 (by rw [nearV, if_neg e1, if_neg e2]) (by rw [nearE, if_neg e1]))
        generalize f 0 = z0 at *
        clear e2
        go_wp2_with fail
        go_ret2
        exact h.out
end Go.Proofs.YtahgffjkkdbjeaaDoor
