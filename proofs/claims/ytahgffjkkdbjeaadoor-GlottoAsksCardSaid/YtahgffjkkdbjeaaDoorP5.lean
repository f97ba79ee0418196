/- Plain laws: an insertion into a sorted row; parts of a row. -/
import Derived.Test.YtahgffjkkdbjeaaDoorP2
import Derived.Test.YtahgffjkkdbjeaaDoorL1
namespace Go.Proofs.YtahgffjkkdbjeaaDoor
open Go.RowKit
/-- v put at place t of the first b. -/
def insF (f : Nat → Nat) (t b : Nat) : Nat → Nat := fun p => if p < t then f p else if p = t then b else if p ≤ b then f (p - 1) else p
theorem insF_same {f : Nat → Nat} {t b : Nat} (h : Same (fun p => p) f 0 b) (ht : t ≤ b) : Same (fun p => p) (insF f t b) 0 (b + 1) := by
  refine ⟨fun p hp => ?_, fun v => ⟨?_, ?_⟩⟩
  · unfold insF; rw [if_neg (by omega), if_neg (by omega), if_neg (by omega)]
  · rintro ⟨p, hp, rfl⟩
    unfold insF
    by_cases h1 : p < t
    · rw [if_pos h1]
      obtain ⟨q, hq, e⟩ := (h.2 (f p)).1 ⟨p, by omega, rfl⟩
      exact ⟨q, by omega, e⟩
    · rw [if_neg h1]
      by_cases h2 : p = t
      · rw [if_pos h2]; exact ⟨b, by omega, rfl⟩
      · rw [if_neg h2, if_pos (by omega)]
        obtain ⟨q, hq, e⟩ := (h.2 (f (p - 1))).1 ⟨p - 1, by omega, rfl⟩
        exact ⟨q, by omega, e⟩
  · rintro ⟨p, hp, rfl⟩
    by_cases h1 : p = b
    · subst h1; exact ⟨t, by omega, by unfold insF; rw [if_neg (by omega), if_pos rfl]⟩
    · obtain ⟨q, hq, e⟩ := (h.2 p).2 ⟨p, by omega, rfl⟩
      by_cases h2 : q < t
      · exact ⟨q, by omega, by unfold insF; rw [if_pos h2]; exact e⟩
      · exact ⟨q + 1, by omega, by unfold insF; rw [if_neg (by omega), if_neg (by omega), if_pos (by omega)]; exact e⟩
theorem same_lt {f : Nat → Nat} {b : Nat} (h : Same (fun p => p) f 0 b) {p : Nat} (hp : p < b) : f p < b := by
  obtain ⟨q, hq, e⟩ := (h.2 (f p)).1 ⟨p, by omega, rfl⟩
  have e : q = f p := e
  omega
theorem insF_lt {f : Nat → Nat} {t b p : Nat} (h : p < t) : insF f t b p = f p := if_pos h
theorem insF_eq {f : Nat → Nat} {t b : Nat} : insF f t b t = b := by unfold insF; rw [if_neg (by omega), if_pos rfl]
theorem insF_gt {f : Nat → Nat} {t b p : Nat} (h : t < p) (h2 : p ≤ b) : insF f t b p = f (p - 1) := by unfold insF; rw [if_neg (by omega), if_neg (by omega), if_pos h2]
theorem insF_srt {K f : Nat → Nat} {t b : Nat} (hs : Srt K f 0 b) (hm : Same (fun p => p) f 0 b) (ht : t ≤ b) (h1 : ∀ p, p < t → K (f p) ≤ K b) (h2 : t < b → K b < K (f t)) : Srt K (insF f t b) 0 (b + 1) := by
  intro p q _ hpq hq
  rcases Nat.lt_trichotomy q t with a1 | a1 | a1
  · rw [insF_lt a1, insF_lt (by omega)]; exact hs p q (Nat.zero_le _) hpq (by omega)
  · subst a1
    rw [insF_eq, insF_lt hpq]
    have := h1 p hpq
    have := same_lt hm (show p < b by omega)
    unfold ltK; omega
  · rw [insF_gt a1 (by omega)]
    rcases Nat.lt_trichotomy p t with a3 | a3 | a3
    · rw [insF_lt a3]; exact hs p (q - 1) (Nat.zero_le _) (by omega) (by omega)
    · subst a3
      rw [insF_eq]
      have k1 := h2 (by omega)
      have : K (f p) ≤ K (f (q - 1)) := by
        by_cases e : p = q - 1
        · rw [e]; exact Nat.le_refl _
        · have := hs p (q - 1) (Nat.zero_le _) (by omega) (by omega); unfold ltK at this; omega
      unfold ltK; omega
    · rw [insF_gt a3 (by omega)]; exact hs (p - 1) (q - 1) (Nat.zero_le _) (by omega) (by omega)
/-- The row as a list of numbers. -/
def rowL (f : Nat → Nat) (b : Nat) : List Int := (List.range b).map fun p => (f p : Int)
theorem rowL_len (f : Nat → Nat) (b : Nat) : (rowL f b).length = b := by simp [rowL]
theorem rowL_ins (f : Nat → Nat) {t b : Nat} (ht : t ≤ b) : rowL (insF f t b) (b + 1) = (rowL f b).take t ++ [(b : Int)] ++ (rowL f b).drop t := by
  apply List.ext_getElem?
  intro i
  have l1 : ((rowL f b).take t).length = t := by simp [rowL_len]; omega
  by_cases h1 : i < t
  · rw [List.append_assoc, List.getElem?_append_left (by omega), List.getElem?_take, if_pos h1]
    simp [rowL, insF, h1, show i < b + 1 by omega, show i < b by omega]
  · by_cases h2 : i = t
    · subst h2
      rw [List.append_assoc, List.getElem?_append_right (Nat.le_of_eq l1), l1]
      simp [rowL, insF, show i < b + 1 by omega]
    · rw [List.getElem?_append_right (by rw [List.length_append, l1, List.length_singleton]; omega)]
      simp only [List.length_append, l1, List.length_singleton, List.getElem?_drop]
      by_cases h3 : i < b + 1
      · simp [rowL, insF, h1, h2, h3, show i ≤ b by omega, show t + (i - (t + 1)) = i - 1 by omega, show i - 1 < b by omega]
      · rw [List.getElem?_eq_none (by rw [rowL_len]; omega), List.getElem?_eq_none (by rw [rowL_len]; omega)]
theorem rowL_at (f : Nat → Nat) {b p : Nat} (hp : p < b) : iA (rowL f b) p = (f p : Int) := by simp [iA, rowL, hp]
/-- The first part of a row that is read. -/
theorem Rd.take1 {w : World} {a : Option Addr} {α : Type} {f : α → Value} {l : List α} (h : Rd w a (fl (fun y => [f y]) l)) (t : Nat) : Rd w a (fl (fun y => [f y]) (l.take t)) := by
  have len : ∀ l : List α, (fl (fun y => [f y]) l).length = l.length := fun l => by rw [fl_length (k := 1) (fun _ => rfl)]; omega
  intro h0
  have l0 := len l
  rw [len] at h0
  have l1 : (l.take t).length ≤ l.length := by rw [List.length_take]; omega
  obtain ⟨b, o, e, hb, hc⟩ := h (by omega)
  refine ⟨b, o, e, hb, fun i hi => ?_⟩
  rw [len] at hi
  have e2 : fl (fun y => [f y]) l = fl (fun y => [f y]) (l.take t) ++ fl (fun y => [f y]) (l.drop t) := by rw [← fl_append, List.take_append_drop]
  rw [hc i (by omega), e2, List.getD_eq_getElem?_getD, List.getD_eq_getElem?_getD, List.getElem?_append_left (by rw [len]; exact hi)]
theorem Rd.drop1 {w : World} {g o : Nat} {α : Type} {f : α → Value} {l : List α} (h : Rd w (some ⟨g, o, none⟩) (fl (fun y => [f y]) l)) (t : Nat) : Rd w (some ⟨g, o + t, none⟩) (fl (fun y => [f y]) (l.drop t)) := by
  have len : ∀ l : List α, (fl (fun y => [f y]) l).length = l.length := fun l => by rw [fl_length (k := 1) (fun _ => rfl)]; omega
  intro h0
  have l0 := len l
  rw [len, List.length_drop] at h0
  obtain ⟨b, o', e, hb, hc⟩ := h (by omega)
  have e := Option.some.inj e
  obtain ⟨rfl, rfl⟩ : g = b ∧ o = o' := by have := congrArg Addr.block e; have := congrArg Addr.off e; exact ⟨by assumption, by assumption⟩
  refine ⟨g, o + t, rfl, hb, fun i hi => ?_⟩
  rw [len, List.length_drop] at hi
  have e2 : fl (fun y => [f y]) l = fl (fun y => [f y]) (l.take t) ++ fl (fun y => [f y]) (l.drop t) := by rw [← fl_append, List.take_append_drop]
  have l3 : (fl (fun y => [f y]) (l.take t)).length = t := by rw [len, List.length_take]; omega
  rw [show o + t + i = o + (t + i) by omega, hc (t + i) (by omega), e2, List.getD_eq_getElem?_getD, List.getD_eq_getElem?_getD, List.getElem?_append_right (by omega), l3, show t + i - t = i by omega]
end Go.Proofs.YtahgffjkkdbjeaaDoor
