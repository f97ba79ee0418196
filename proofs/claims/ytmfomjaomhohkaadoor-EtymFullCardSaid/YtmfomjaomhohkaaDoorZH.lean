/- A graph that is being copied: what lies in memory. (*etym.Graph).Copy. EtymNil. A step that came in. -/
import Derived.Test.YtmfomjaomhohkaaDoorZC
import Derived.Test.YtmfomjaomhohkaaDoorZE
import Derived.Test.YtmfomjaomhohkaaDoorZD
import Derived.Test.YtmfomjaomhohkaaDoorZG
import Derived.ChangeSame
import Derived.OpenShut
import Derived.ProofKit
import Derived.Deep.Slices
import Derived.Test.YtmfomjaomhohkaaDoorCards
import Derived.Deep.DeepHandedRow
import Derived.Lib.SmallJoins
import Derived.Deep.Strs
import Derived.Test.YtmfomjaomhohkaaDoorZA
namespace Go.Proofs.YtmfomjaomhohkaaDoor
open Go Go.RowKit Go.Shelf Go.Maps
/-- A graph in the midst of a copy: the first words of it. -/
structure GrP (w : World) (O : Nat → Prop) (g : Nat) (r : GrA) (es : List Et) (ls : List Lk) (F T : Nat → List Int) : Prop where
  blk : Blk w g #[.slice r.A es.length r.c, .slice r.B ls.length r.d, .map (some r.mb)] 74
  list : w.ownsRow 0 82 4 (.slice r.A es.length r.c) es.length (fl encEn r.ens)
  lks : w.ownsRow 0 33 3 (.slice r.B ls.length r.d) ls.length (fl encLk ls)
  map : MH w r.mb es.length (gF (es.map eK)) (gG (es.map eK))
  len : r.ens.length = es.length
  lang : ∀ i, i < es.length → (r.ens.getD i enD).lang = (es.getD i etD).1
  snd : ∀ i, i < es.length → w.ownsRow 0 57 2 (slR (r.ens.getD i enD).w) (es.getD i etD).2.length (fl encSd (es.getD i etD).2)
  frs : ∀ i, i < es.length → w.ownsRow 0 3 1 (slR (r.ens.getD i enD).frs) (F i).length (fl encI (F i))
  tos : ∀ i, i < es.length → w.ownsRow 0 3 1 (slR (r.ens.getD i enD).tos) (T i).length (fl encI (T i))
  dff : ∀ i j b, i < es.length → j < es.length → i ≠ j → (slR (r.ens.getD i enD).frs).ownBlock = some b → (slR (r.ens.getD j enD).frs).ownBlock ≠ some b
  dtt : ∀ i j b, i < es.length → j < es.length → i ≠ j → (slR (r.ens.getD i enD).tos).ownBlock = some b → (slR (r.ens.getD j enD).tos).ownBlock ≠ some b
  dft : ∀ i j b, i < es.length → j < es.length → (slR (r.ens.getD i enD).frs).ownBlock = some b → (slR (r.ens.getD j enD).tos).ownBlock ≠ some b
  oG : O g
  oM : O r.mb
  oL : ∀ b, (Value.slice r.A es.length r.c).ownBlock = some b → O b
  oK : ∀ b, (Value.slice r.B ls.length r.d).ownBlock = some b → O b
  oF : ∀ i b, i < es.length → (slR (r.ens.getD i enD).frs).ownBlock = some b → O b
  oT : ∀ i b, i < es.length → (slR (r.ens.getD i enD).tos).ownBlock = some b → O b
  oS : ∀ i b, i < es.length → (slR (r.ens.getD i enD).w).ownBlock = some b → ¬ O b
  lt : ∀ k, O k → k < w.heap.size
theorem GrP.done {w : World} {O : Nat → Prop} {g : Nat} {r : GrA} {es : List Et} {ls : List Lk} (h : GrP w O g r es ls (frI ls) (toI ls)) (nE : es.length ≤ 1024) (nL : ls.length ≤ 4096)
    (inr : ∀ k, k < ls.length → (0 ≤ lF ls k ∧ lF ls k < (es.length : Int)) ∧ 0 ≤ lT ls k ∧ lT ls k < (es.length : Int)) (fit : ∀ i, i < es.length → FitS (es.getD i etD).2 ∧ (es.getD i etD).2.length ≤ 32 ∧ (es.getD i etD).1.size ≤ 24) (nod : (es.map eK).Nodup) : GrAt w O g r es ls :=
  ⟨h.blk, h.list, h.lks, h.map, h.len, h.lang, h.snd, h.frs, h.tos, h.dff, h.dtt, h.dft, h.oG, h.oM, h.oL, h.oK, h.oF, h.oT, h.oS, h.lt, nE, nL, inr, fit, nod⟩
theorem GrP.bl {w w' : World} {O : Nat → Prop} {g : Nat} {r : GrA} {es : List Et} {ls : List Lk} {F T : Nat → List Int} (h : GrP w O g r es ls F T) (hb : Below w.heap.size w w') : GrP w' O g r es ls F T :=
  ⟨h.blk.below hb, owns_below h.list hb, owns_below h.lks hb, h.map.bl hb, h.len, h.lang, fun i hi => owns_below (h.snd i hi) hb, fun i hi => owns_below (h.frs i hi) hb, fun i hi => owns_below (h.tos i hi) hb, h.dff, h.dtt, h.dft, h.oG, h.oM, h.oL, h.oK, h.oF, h.oT, h.oS, fun k hk => Nat.lt_of_lt_of_le (h.lt k hk) hb.size⟩
/-- An entry more: w1 is the world before, wN the world when the rows of its links were made. -/
theorem GrP.add {w w' : World} {O : Nat → Prop} {g : Nat} {r : GrA} {es : List Et} {ls : List Lk} {F T : Nat → List Int} (h : GrP w O g r es ls F T) (hk : Keeps (AddT g r es.length) w w') (lang : ByteArray) (l : List Sd) {A' : Option Addr} {c' : Nat} {xw xf xt : Rw}
    (hblk : Blk w' g #[.slice A' (es.length + 1) c', .slice r.B ls.length r.d, .map (some r.mb)] 74)
    (hlist : w'.ownsRow 0 82 4 (.slice A' (es.length + 1) c') (es.length + 1) (fl encEn (r.ens ++ [⟨lang, xw, xf, xt⟩])))
    (_ : ∀ b, (Value.slice A' (es.length + 1) c').ownBlock = some b → (Value.slice r.A es.length r.c).ownBlock = some b ∨ w.heap.size ≤ b)
    (hmap : MH w' r.mb (es.length + 1) (updS (gF (es.map eK)) (keyB lang l) (es.length : Int)) (updS (gG (es.map eK)) (keyB lang l) true))
    (hsnd : w'.ownsRow 0 57 2 (slR xw) l.length (fl encSd l)) (hsO : ∀ b, (slR xw).ownBlock = some b → ¬ O b)
    (hfr : w'.ownsRow w.heap.size 3 1 (slR xf) (F es.length).length (fl encI (F es.length))) (hto : w'.ownsRow w.heap.size 3 1 (slR xt) (T es.length).length (fl encI (T es.length))) (hft : ∀ b, (slR xf).ownBlock = some b → (slR xt).ownBlock ≠ some b)
    (hG : gG (es.map eK) (keyB lang l) = false) :
    GrP w' (fun k => O k ∨ (Value.slice A' (es.length + 1) c').ownBlock = some k ∨ (slR xf).ownBlock = some k ∨ (slR xt).ownBlock = some k) g ⟨A', c', r.B, r.d, r.mb, r.ens ++ [⟨lang, xw, xf, xt⟩]⟩ (es ++ [(lang, l)]) ls F T := by
  have kg := h.blk.kind
  have km := h.map.kind
  have kl : ∀ b, (Value.slice r.A es.length r.c).ownBlock = some b → kind w b = some (some 82) := fun b e => own_kind h.list e
  have nT : ∀ b t, kind w b = some (some t) → t ≠ 74 → t ≠ 82 → ¬ AddT g r es.length b := fun b t hb h1 h2 q => by
    rcases q with rfl | rfl | q
    · rw [kg] at hb; exact h1 (by simpa using hb.symm)
    · rw [km] at hb; simp at hb
    · rw [kl b q] at hb; exact h2 (by simpa using hb.symm)
  have hens : ∀ i, (r.ens ++ [(⟨lang, xw, xf, xt⟩ : En)]).getD i enD = if i < es.length then r.ens.getD i enD else if i = es.length then ⟨lang, xw, xf, xt⟩ else enD := fun i => by rw [getD_snoc, h.len]
  have hes : ∀ i, (es ++ [(lang, l)]).getD i etD = if i < es.length then es.getD i etD else if i = es.length then (lang, l) else etD := fun i => getD_snoc _ _ _ _
  have hlen : (es ++ [(lang, l)]).length = es.length + 1 := by simp
  have two : ∀ i, i < es.length + 1 → i < es.length ∨ i = es.length := fun i hi => by omega
  have kA : ∀ b, (Value.slice A' (es.length + 1) c').ownBlock = some b → kind w' b = some (some 82) := fun b e => own_kind hlist e
  have kF : ∀ b, (slR xf).ownBlock = some b → kind w' b = some (some 3) := fun b e => own_kind hfr e
  have kT : ∀ b, (slR xt).ownBlock = some b → kind w' b = some (some 3) := fun b e => own_kind hto e
  refine ⟨?_, ?_, ?_, ?_, ?_, ?_, ?_, ?_, ?_, ?_, ?_, ?_, ?_, ?_, ?_, ?_, ?_, ?_, ?_, ?_⟩ <;> try simp only [hlen, hens, hes]
  · exact hblk
  · exact hlist
  · exact owns_kp h.lks hk fun b e => nT b _ (own_kind h.lks e) (by decide) (by decide)
  · have e1 : (es ++ [(lang, l)]).map eK = es.map eK ++ [keyB lang l] := by rw [List.map_append]; rfl
    rw [e1, ← gG_snoc, ← gF_snoc _ _ hG, List.length_map]
    exact hmap
  · rw [List.length_append, h.len]; rfl
  · intro i hi
    rcases two i hi with q | rfl
    · rw [if_pos q, if_pos q]; exact h.lang i q
    · simp
  · intro i hi
    rcases two i hi with q | rfl
    · rw [if_pos q, if_pos q]
      exact owns_kp (h.snd i q) hk fun b e => nT b _ (own_kind (h.snd i q) e) (by decide) (by decide)
    · rw [if_neg (by omega), if_pos rfl, if_neg (by omega), if_pos rfl]
      exact hsnd
  · intro i hi
    rcases two i hi with q | rfl
    · rw [if_pos q]
      exact owns_kp (h.frs i q) hk fun b e => nT b _ (own_kind (h.frs i q) e) (by decide) (by decide)
    · rw [if_neg (by omega), if_pos rfl]
      exact owns_mono hfr (by omega)
  · intro i hi
    rcases two i hi with q | rfl
    · rw [if_pos q]
      exact owns_kp (h.tos i q) hk fun b e => nT b _ (own_kind (h.tos i q) e) (by decide) (by decide)
    · rw [if_neg (by omega), if_pos rfl]
      exact owns_mono hto (by omega)
  · intro i j b hi hj hij e
    rcases two i hi with q | rfl
    · rw [if_pos q] at e
      rcases two j hj with q2 | rfl
      · rw [if_pos q2]; exact h.dff i j b q q2 hij e
      · rw [if_neg (by omega), if_pos rfl]
        intro e2
        have h1 := ((h.frs i q).lt b e).2
        have h2 := (hfr.lt b e2).1
        omega
    · rw [if_neg (by omega), if_pos rfl] at e
      rcases two j hj with q2 | rfl
      · rw [if_pos q2]
        intro e2
        have h1 := ((h.frs j q2).lt b e2).2
        have h2 := (hfr.lt b e).1
        omega
      · exact absurd rfl hij
  · intro i j b hi hj hij e
    rcases two i hi with q | rfl
    · rw [if_pos q] at e
      rcases two j hj with q2 | rfl
      · rw [if_pos q2]; exact h.dtt i j b q q2 hij e
      · rw [if_neg (by omega), if_pos rfl]
        intro e2
        have h1 := ((h.tos i q).lt b e).2
        have h2 := (hto.lt b e2).1
        omega
    · rw [if_neg (by omega), if_pos rfl] at e
      rcases two j hj with q2 | rfl
      · rw [if_pos q2]
        intro e2
        have h1 := ((h.tos j q2).lt b e2).2
        have h2 := (hto.lt b e).1
        omega
      · exact absurd rfl hij
  · intro i j b hi hj e
    rcases two i hi with q | rfl
    · rw [if_pos q] at e
      rcases two j hj with q2 | rfl
      · rw [if_pos q2]; exact h.dft i j b q q2 e
      · rw [if_neg (by omega), if_pos rfl]
        intro e2
        have h1 := ((h.frs i q).lt b e).2
        have h2 := (hto.lt b e2).1
        omega
    · rw [if_neg (by omega), if_pos rfl] at e
      rcases two j hj with q2 | rfl
      · rw [if_pos q2]
        intro e2
        have h1 := ((h.tos j q2).lt b e2).2
        have h2 := (hfr.lt b e).1
        omega
      · rw [if_neg (by omega), if_pos rfl]; exact hft b e
  · exact .inl h.oG
  · exact .inl h.oM
  · exact fun b e => .inr (.inl e)
  · exact fun b e => .inl (h.oK b e)
  · intro i b hi e
    rcases two i hi with q | rfl
    · rw [if_pos q] at e; exact .inl (h.oF i b q e)
    · rw [if_neg (by omega), if_pos rfl] at e; exact .inr (.inr (.inl e))
  · intro i b hi e
    rcases two i hi with q | rfl
    · rw [if_pos q] at e; exact .inl (h.oT i b q e)
    · rw [if_neg (by omega), if_pos rfl] at e; exact .inr (.inr (.inr e))
  · intro i b hi e q2
    have hks : kind w' b = some (some 57) ∧ ¬ O b := by
      rcases two i hi with q | rfl
      · rw [if_pos q] at e
        exact ⟨own_kind (owns_kp (h.snd i q) hk fun b e => nT b _ (own_kind (h.snd i q) e) (by decide) (by decide)) e, h.oS i b q e⟩
      · rw [if_neg (by omega), if_pos rfl] at e
        exact ⟨own_kind hsnd e, hsO b e⟩
    rcases q2 with q2 | q2 | q2 | q2
    · exact hks.2 q2
    · have h1 := hks.1; rw [kA b q2] at h1; exact absurd h1 (by decide)
    · have h1 := hks.1; rw [kF b q2] at h1; exact absurd h1 (by decide)
    · have h1 := hks.1; rw [kT b q2] at h1; exact absurd h1 (by decide)
  · intro k q
    rcases q with q | q | q | q
    · exact Nat.lt_of_lt_of_le (h.lt k q) hk.size
    · exact (hlist.lt k q).2
    · exact (hfr.lt k q).2
    · exact (hto.lt k q).2
end Go.Proofs.YtmfomjaomhohkaaDoor
namespace Go.Proofs.YtmfomjaomhohkaaDoor
open Go Go.RowKit Go.Shelf Go.Maps
set_option maxHeartbeats 1000000 in
set_option maxRecDepth 100000 in
theorem copy_no {w : World} {v : Value} (h : GrNo w v) :
    Calls Tryd.prog 32 #[v] w fun e w' => e = .returned (.pointer none) ∧ w' = w := by
  have HM := Lib.hid (made_no h)
  clear h
  go_enter Tryd.func32, Tryd.ntmps32
  go_wp2_with first | fail | (refine HM.out.mono ?_; rintro e w1 ⟨rfl, hw⟩; subst w1)
  go_ret
  exact ⟨rfl, rfl⟩
theorem GrAt.toP {w w' : World} {O : Nat → Prop} {g : Nat} {r : GrA} {ls : List Lk} {B' : Option Addr} {d' : Nat} (h : GrAt w O g r [] []) (hz : w.heap.size ≤ w'.heap.size) (hk : ∀ k, k < w.heap.size → k ≠ g → w'.heap[k]? = w.heap[k]?)
    (hblk : Blk w' g #[.slice r.A 0 r.c, .slice B' ls.length d', .map (some r.mb)] 74) (hl : w'.ownsRow w.heap.size 33 3 (.slice B' ls.length d') ls.length (fl encLk ls)) (F T : Nat → List Int) :
    GrP w' (fun k => O k ∨ (Value.slice B' ls.length d').ownBlock = some k) g ⟨r.A, r.c, B', d', r.mb, []⟩ [] ls F T := by
  have h0 : ∀ {i : Nat}, i < ([] : List Et).length → False := fun h => absurd h (Nat.not_lt_zero _)
  refine ⟨hblk, ?_, owns_mono hl (Nat.zero_le _), ?_, rfl, fun i hi => (h0 hi).elim, fun i hi => (h0 hi).elim, fun i hi => (h0 hi).elim, fun i hi => (h0 hi).elim, fun i j b hi => (h0 hi).elim, fun i j b hi => (h0 hi).elim, fun i j b hi => (h0 hi).elim, .inl h.oG, .inl h.oM, fun b e => .inl (h.oL b e), fun b e => .inr e, fun i b hi => (h0 hi).elim, fun i b hi => (h0 hi).elim, fun i b hi => (h0 hi).elim, fun k q => ?_⟩
  · have hens : r.ens = [] := List.eq_nil_of_length_eq_zero h.len
    have h1 := h.list
    rw [hens] at h1
    refine owns_at h1 fun b e => hk b (h.list.lt b e).2 fun q => ?_
    have g1 := own_kind h.list e
    rw [q, h.blk.kind] at g1
    exact absurd g1 (by decide)
  · refine h.map.at (hk _ h.map.lt fun q => ?_)
    have g1 := h.map.kind
    rw [q, h.blk.kind] at g1
    exact absurd g1 (by decide)
  · rcases q with q | q
    · exact Nat.lt_of_lt_of_le (h.lt k q) hz
    · exact (hl.lt k q).2
theorem gG_take {es : List Et} (h : (es.map eK).Nodup) {n : Nat} (hn : n < es.length) {s : ByteArray} {l : List Sd} (hp : es.getD n etD = (s, l)) : gG ((es.take n).map eK) (keyB s l) = false := by
  rcases Bool.eq_false_or_eq_true (gG ((es.take n).map eK) (keyB s l)) with q | q
  rotate_left
  · exact q
  have hm := gG_iff.1 q
  exfalso
  obtain ⟨x, hx, e⟩ := List.mem_map.1 hm
  obtain ⟨i, hi, rfl⟩ := List.mem_iff_getElem.1 hx
  have hi' : i < n ∧ i < es.length := by rw [List.length_take] at hi; omega
  rw [List.getElem_take] at e
  have h2 : eK es[n] = keyB s l := by
    rw [List.getD_eq_getElem?_getD, List.getElem?_eq_getElem hn] at hp
    simp only [Option.getD_some] at hp
    rw [hp]; rfl
  have h3 := (List.getElem_inj (h₀ := by rw [List.length_map]; exact hi'.2) (h₁ := by rw [List.length_map]; exact hn) h).1 (show (es.map eK)[i]'(by rw [List.length_map]; exact hi'.2) = (es.map eK)[n]'(by rw [List.length_map]; exact hn) by rw [List.getElem_map, List.getElem_map, h2, e])
  omega
set_option maxHeartbeats 4000000 in
set_option maxRecDepth 100000 in
theorem copy_any {w : World} {O : Nat → Prop} {g : Nat} {r : GrA} {es : List Et} {ls : List Lk} (h : GrAt w O g r es ls) (hK : ∀ i, i < es.length → KyB w.heap.size w (es.getD i etD).1 (es.getD i etD).2) :
    Calls Tryd.prog 32 #[.pointer (some ⟨g, 0, none⟩)] w fun e w' => ∃ (O' : Nat → Prop) (g' : Nat) (r' : GrA), e = .returned (.pointer (some ⟨g', 0, none⟩)) ∧ GrAt w' O' g' r' es ls ∧ (∀ k, O' k → w.heap.size ≤ k) ∧ Below w.heap.size w w' := by
  have HM := Lib.hid (made_yes h)
  have HNW := Lib.hid (new_any w)
  have HG := Lib.hid h
  have HKY := Lib.hid hK
  have hnE := h.nE
  have hcA := own_capQ h.list
  have hnL := h.nL
  have c1 : w.cell? ⟨g, 1, none⟩ = some (.slice r.B ls.length r.d) := h.blk.cell 1
  have HCL : Hid (∀ W, Below w.heap.size w W → Calls Tryd.prog 46 #[.slice r.B ls.length r.d] W fun e w' => ∃ v, e = .returned v ∧ w'.ownsRow W.heap.size 33 3 v ls.length (fl encLk ls) ∧ Below W.heap.size W w') := fun W hW => cloneLk_any r.B ls.length r.d ls W rfl (by omega) ((rd_of_owns h.lks).bl hW) (fun e => none_row h.lks e)
  clear h hK
  go_enter Tryd.func32, Tryd.ntmps32
  go_wp2_with first | fail | (go_at_call 34; refine HM.out.mono ?_; rintro e w1 ⟨rfl, hw⟩; subst w1)
  refine HNW.out.mono ?_
  rintro e w2 ⟨O2, g2, r2, rfl, hg2, hO2, hb2⟩
  have d1 : w2.cell? ⟨g, 1, none⟩ = some (.slice r.B ls.length r.d) := (hb2.cell (p := ⟨g, 1, none⟩) HG.out.blk.lt).trans c1
  have HG2 := Lib.hid hg2
  have HO2 := Lib.hid hO2
  have HB2 := Lib.hid hb2
  clear hg2 hO2 hb2 c1
  go_wp2_with fail
  refine (HCL.out w2 HB2.out).mono ?_
  rintro e w3 ⟨v, rfl, h3, hb3⟩
  obtain ⟨B', d', rfl, _⟩ := owns_slice h3
  have H3 := Lib.hid h3
  have HB3 := Lib.hid hb3
  have hblk3 := HG2.out.blk.below hb3
  have e3 : w3.cell? ⟨g2, 1, none⟩ = some (.slice r2.B 0 r2.d) := hblk3.cell 1
  have f3 : w3.frozen? ⟨g2, 1, none⟩ = false := hblk3.free 1
  have HBK3 := Lib.hid hblk3
  have d0 : w3.cell? ⟨g, 0, none⟩ = some (.slice r.A es.length r.c) := ((HB2.out.trans (hb3.mono HB2.out.size)).cell (p := ⟨g, 0, none⟩) HG.out.blk.lt).trans (HG.out.blk.cell 0)
  have hg2w : w.heap.size ≤ g2 := HO2.out g2 HG2.out.oG
  have hgl := HG.out.blk.lt
  have d0' : (w3.setCell ⟨g2, 1, none⟩ (.slice B' ls.length d')).cell? ⟨g, 0, none⟩ = some (.slice r.A es.length r.c) := (World.cell?_of_block (a := ⟨g, 0, none⟩) (Below.heap_setCell w3 ⟨g2, 1, none⟩ _ g (show g ≠ g2 by omega))).trans d0
  clear h3 hb3 hblk3 d1 d0
  go_wp2_with fail
  have hP0 : GrP (w3.setCell ⟨g2, 1, none⟩ (.slice B' ls.length d')) (fun k => O2 k ∨ (Value.slice B' ls.length d').ownBlock = some k) g2 ⟨r2.A, r2.c, B', d', r2.mb, []⟩ [] ls (frI ls) (toI ls) := by
    refine HG2.out.toP (by have := HB3.out.size; simp; omega) (fun k k1 k2 => (Below.heap_setCell w3 ⟨g2, 1, none⟩ _ k k2).trans (HB3.out.block k k1)) (by have := HBK3.out.set 1 (.slice B' ls.length d'); simpa using this) (owns_setQ H3.out HBK3.out (by decide) 1 _) _ _
  have hbw4 : Below w.heap.size w (w3.setCell ⟨g2, 1, none⟩ (.slice B' ls.length d')) := bl_set (HB2.out.trans (HB3.out.mono HB2.out.size)) _ _ _ _ hg2w
  have hO4 : ∀ k, (O2 k ∨ (Value.slice B' ls.length d').ownBlock = some k) → w.heap.size ≤ k := fun k q => by
    rcases q with q | q
    · exact HO2.out k q
    · have := (H3.out.lt k q).1; have := HB2.out.size; omega
  obtain ⟨w4, hw4⟩ : ∃ y, y = w3.setCell ⟨g2, 1, none⟩ (.slice B' ls.length d') := ⟨_, rfl⟩
  rw [← hw4] at hP0 hbw4 d0' ⊢
  have HP0 : Hid (GrP w4 (fun k => O2 k ∨ (Value.slice B' ls.length d').ownBlock = some k) g2 ⟨r2.A, r2.c, B', d', r2.mb, []⟩ (es.take 0) ls (frI ls) (toI ls)) := hP0
  have HBW4 := Lib.hid hbw4
  have HO4 := Lib.hid hO4
  obtain ⟨N, hN⟩ : ∃ N, N = es.length := ⟨_, rfl⟩
  rw [← hN] at hnE hcA d0' ⊢
  have HN := Lib.hid hN
  have HNN : Hid (N ≤ 1024) := hnE
  clear hw4 hP0 hbw4 hO4 HBK3 H3 HB3 e3 f3 HG2 HO2 HB2 HNW HM HCL hN d0'
  go_loopw [23] (fun x wr => ∃ (n : Nat) (On : Nat → Prop) (rn : GrA), n ≤ N ∧ x = .int .i64 n ∧ Hid (GrP wr On g2 rn (es.take n) ls (frI ls) (toI ls)) ∧ Hid (Below w.heap.size w wr) ∧ Hid (∀ k, On k → w.heap.size ≤ k)) (fun x _ => N - (intOf x).toNat)
  case atStart => exact ⟨0, _, _, by omega, rfl, HP0, HBW4, HO4⟩
  case round =>
    clear HP0 HBW4 HO4
    obtain ⟨n, On, rn, hn, rfl, hP, hW, hOn⟩ := hrel
    by_cases hlt : n < N
    · have hltE : n < es.length := by rw [← HN.out]; exact hlt
      obtain ⟨ba, hba⟩ := own_off HG.out.list (by omega)
      have hbal : ba < w.heap.size := (HG.out.list.lt ba (by rw [hba]; rfl)).2
      obtain ⟨z1, z2, z3, z4⟩ : wr.cell? ⟨ba, n * 4, none⟩ = some (.string (es.getD n etD).1) ∧ wr.cell? ⟨ba, n * 4 + 1, none⟩ = some (slR (r.ens.getD n enD).w) ∧ wr.cell? ⟨ba, n * 4 + 2, none⟩ = some (slR (r.ens.getD n enD).frs) ∧ wr.cell? ⟨ba, n * 4 + 3, none⟩ = some (slR (r.ens.getD n enD).tos) := by
        obtain ⟨_, _, e, _, hc⟩ := rdEn (rd_of_owns HG.out.list) (by rw [HG.out.len]; omega)
        rw [hba] at e
        cases e
        obtain ⟨q1, q2, q3, q4⟩ := hc n (by rw [HG.out.len]; exact hltE)
        rw [Nat.zero_add] at q1 q2 q3 q4
        rw [HG.out.lang n hltE] at q1
        exact ⟨(hW.out.cell (p := ⟨ba, n * 4, none⟩) hbal).trans q1, (hW.out.cell (p := ⟨ba, n * 4 + 1, none⟩) hbal).trans q2, (hW.out.cell (p := ⟨ba, n * 4 + 2, none⟩) hbal).trans q3, (hW.out.cell (p := ⟨ba, n * 4 + 3, none⟩) hbal).trans q4⟩
      have hso := HG.out.snd n hltE
      have hfo := HG.out.frs n hltE
      have hto := HG.out.tos n hltE
      have hsO : ∀ b, (slR (r.ens.getD n enD).w).ownBlock = some b → b < w.heap.size := fun b e => (hso.lt b e).2
      obtain ⟨⟨wa, wn, wc⟩, hwr⟩ : ∃ x, x = (r.ens.getD n enD).w := ⟨_, rfl⟩
      obtain ⟨⟨fa, fn, fc⟩, hfr⟩ : ∃ x, x = (r.ens.getD n enD).frs := ⟨_, rfl⟩
      obtain ⟨⟨ta, tn, tc⟩, htr⟩ : ∃ x, x = (r.ens.getD n enD).tos := ⟨_, rfl⟩
      rw [← hwr] at z2 hso hsO
      rw [← hfr] at z3 hfo
      rw [← htr] at z4 hto
      unfold slR at z2 z3 z4 hso hfo hto hsO
      obtain ⟨_, _, ea, _⟩ := owns_slice hso
      obtain rfl : wn = (es.getD n etD).2.length := by simp only [Value.slice.injEq] at ea; exact ea.2.1
      obtain ⟨_, _, eb, _⟩ := owns_slice hfo
      obtain rfl : fn = (frI ls n).length := by simp only [Value.slice.injEq] at eb; exact eb.2.1
      obtain ⟨_, _, ec, _⟩ := owns_slice hto
      obtain rfl : tn = (toI ls n).length := by simp only [Value.slice.injEq] at ec; exact ec.2.1
      clear ea eb ec hwr hfr htr
      have hfl : (frI ls n).length ≤ 4096 := by
        unfold frI
        rw [List.length_map]
        have h := List.length_filter_le (fun k => decide (lT ls k = (n : Int))) (List.range ls.length)
        rw [List.length_range] at h
        omega
      have htl : (toI ls n).length ≤ 4096 := by
        unfold toI
        rw [List.length_map]
        have h := List.length_filter_le (fun k => decide (lF ls k = (n : Int))) (List.range ls.length)
        rw [List.length_range] at h
        omega
      have HCF : Hid (∀ W, Below w.heap.size w W → Calls Tryd.prog 47 #[.slice fa (frI ls n).length fc] W fun e w' => ∃ v, e = .returned v ∧ w'.ownsRow W.heap.size 3 1 v (frI ls n).length (fl encI (frI ls n)) ∧ Below W.heap.size W w') := fun W hW => cloneI_any fa _ fc (frI ls n) W rfl (by omega) ((rd_of_owns hfo).bl hW) (fun e => none_row hfo e)
      have HCT : Hid (∀ W, Below w.heap.size w W → Calls Tryd.prog 47 #[.slice ta (toI ls n).length tc] W fun e w' => ∃ v, e = .returned v ∧ w'.ownsRow W.heap.size 3 1 v (toI ls n).length (fl encI (toI ls n)) ∧ Below W.heap.size W w') := fun W hW => cloneI_any ta _ tc (toI ls n) W rfl (by omega) ((rd_of_owns hto).bl hW) (fun e => none_row hto e)
      have HSO := Lib.hid hso
      have HSL := Lib.hid hsO
      obtain ⟨s, hs⟩ : ∃ s, s = (es.getD n etD).1 := ⟨_, rfl⟩
      obtain ⟨l, hl⟩ : ∃ l, l = (es.getD n etD).2 := ⟨_, rfl⟩
      have hky := HKY.out n hltE
      rw [← hs, ← hl] at hky
      rw [← hs] at z1
      rw [← hl] at z2 HSO HSL
      have HKn := Lib.hid hky
      have HS := Lib.hid hs
      have HL := Lib.hid hl
      obtain ⟨fN, hfN⟩ : ∃ y, y = (frI ls n).length := ⟨_, rfl⟩
      obtain ⟨tN, htN⟩ : ∃ y, y = (toI ls n).length := ⟨_, rfl⟩
      obtain ⟨lN, hlN⟩ : ∃ y, y = l.length := ⟨_, rfl⟩
      rw [← hfN] at z3 HCF hfl
      rw [← htN] at z4 HCT htl
      rw [← hlN] at z2 HSO HSL
      have HFN := Lib.hid hfN
      have HTN := Lib.hid htN
      have HLN := Lib.hid hlN
      rw [hba]
      clear hltE hba hso hfo hto hsO hs hl hky hfN htN hlN
      go_wp2_with fail
      have hE5 := Blk.new wr #[.string s, .slice wa lN wc, .slice fa fN fc, .slice ta tN tc] 82
      have hb5 := bl_alloc (Below.refl _ wr) (.cells #[.string s, .slice wa lN wc, .slice fa fN fc, .slice ta tN tc] 82)
      obtain ⟨E, hE⟩ : ∃ y, y = wr.heap.size := ⟨_, rfl⟩
      obtain ⟨w5, hw5⟩ : ∃ y, y = wr.alloc (.cells #[.string s, .slice wa lN wc, .slice fa fN fc, .slice ta tN tc] 82) := ⟨_, rfl⟩
      have hz5 : w5.heap.size = wr.heap.size + 1 := by rw [hw5]; simp
      rw [← hw5] at hE5 hb5 ⊢
      rw [← hE] at hE5 ⊢
      have HEW : Hid (E = wr.heap.size) := hE
      have hP5 := hP.out.bl hb5
      have HE5 := Lib.hid hE5
      have HB5 := Lib.hid hb5
      have HZ5 := Lib.hid hz5
      have hln : (es.take n).length = n := by rw [List.length_take, ← HN.out]; omega
      have HLNN := Lib.hid hln
      have e0 : w5.drew.cell? ⟨g2, 0, none⟩ = some (.slice rn.A n rn.c) := by have h := hP5.blk.cell 0; rw [hln] at h; exact h
      have e1 : w5.drew.cell? ⟨E, 0, none⟩ = some (.string s) := hE5.cell 0
      have e2 : w5.drew.cell? ⟨E, 1, none⟩ = some (.slice wa lN wc) := hE5.cell 1
      have e3 : w5.drew.cell? ⟨E, 2, none⟩ = some (.slice fa fN fc) := hE5.cell 2
      have e4 : w5.drew.cell? ⟨E, 3, none⟩ = some (.slice ta tN tc) := hE5.cell 3
      have hb5w : Below w.heap.size w w5 := hW.out.trans (hb5.mono hW.out.size)
      have HB5W := Lib.hid hb5w
      clear z1 z2 z3 z4 hw5 hE5 hb5 hz5 hE hP5 hln hb5w
      refine wp_region_order (S := fun w' => w'.cell? ⟨g2, 0, none⟩ = some (.slice rn.A n rn.c) ∧ w'.cell? ⟨E, 0, none⟩ = some (.string s) ∧ w'.cell? ⟨E, 1, none⟩ = some (.slice wa lN wc) ∧ w'.cell? ⟨E, 2, none⟩ = some (.slice fa fN fc) ∧ w'.cell? ⟨E, 3, none⟩ = some (.slice ta tN tc)) 18 [0,1,2,3,4,5,6,7,8,9,10,12,13] [11,14,15,16,17] (by kernel_rfl) (by kernel_rfl) ⟨e0, e1, e2, e3, e4⟩ ?_
      iterate 13 (refine headT_cons (by rfl) (by rfl) (by intro w hSw; obtain ⟨s0, s1, s2, s3, s4⟩ := hSw; go_simp; try rfl) ?_; simp only [Act.put, List.setIfInBounds_toArray, List.set_cons_zero, List.set_cons_succ])
      refine headT_nil ?_
      obtain ⟨wb, hwb⟩ : ∃ x, x = w5.drew := ⟨_, rfl⟩
      rw [← hwb]
      have hB5b : Below wr.heap.size wr wb := by rw [hwb]; exact bl_drewN HB5.out 1
      have hEb : Blk wb E #[.string s, .slice wa lN wc, .slice fa fN fc, .slice ta tN tc] 82 := by rw [hwb]; exact HE5.out.below (bl_drewN (Below.refl _ w5) 1)
      have hSS : ∀ W, Below wb.heap.size wb W → W.cell? ⟨g2, 0, none⟩ = some (.slice rn.A n rn.c) ∧ W.cell? ⟨E, 0, none⟩ = some (.string s) ∧ W.cell? ⟨E, 1, none⟩ = some (.slice wa lN wc) ∧ W.cell? ⟨E, 2, none⟩ = some (.slice fa fN fc) ∧ W.cell? ⟨E, 3, none⟩ = some (.slice ta tN tc) := fun W hWb => by
        have hE6 := hEb.below hWb
        have h := (hP.out.bl (bl_trans hB5b hWb)).blk.cell 0
        rw [HLNN.out] at h
        exact ⟨h, hE6.cell 0, hE6.cell 1, hE6.cell 2, hE6.cell 3⟩
      have HSS := Lib.hid hSS
      have HBb := Lib.hid hB5b
      have HEb := Lib.hid hEb
      clear hwb e0 e1 e2 e3 e4 hB5b hEb hSS
      refine midT_cons (by rfl) (fun K hK => ?_)
      rw [if_pos (by rfl)]
      go_simp
      refine (HCF.out wb (hW.out.trans (HBb.out.mono hW.out.size))).mono ?_
      rintro e w6 ⟨v, rfl, h6, hb6⟩
      obtain ⟨fa', fc', rfl, _⟩ := owns_slice h6
      have H6 := Lib.hid h6
      have HB6 := Lib.hid hb6
      refine hK.out _ _ (HSS.out w6 hb6) (fun _ => ?_)
      clear hK K h6 hb6
      try simp only [Act.put, List.setIfInBounds_toArray, List.set_cons_zero, List.set_cons_succ]
      refine midT_cons (by rfl) (fun K hK => ?_)
      rw [if_pos (by rfl)]
      go_simp
      refine (HCT.out w6 (hW.out.trans ((bl_trans HBb.out HB6.out).mono hW.out.size))).mono ?_
      rintro e w7 ⟨v, rfl, h7, hb7⟩
      obtain ⟨ta', tc', rfl, _⟩ := owns_slice h7
      have H7 := Lib.hid h7
      have HB7 := Lib.hid (bl_trans HB6.out hb7)
      have H67 := Lib.hid (owns_below H6.out hb7)
      have HDD : Hid (∀ b, (Value.slice fa' fN fc').ownBlock = some b → (Value.slice ta' tN tc').ownBlock ≠ some b) := fun b q q2 => by
        have := (H6.out.lt b q).2
        have := (h7.lt b q2).1
        omega
      have H77 := Lib.hid (owns_mono h7 HB6.out.size)
      refine hK.out _ _ (HSS.out w7 HB7.out) (fun _ => ?_)
      clear hK K h7 hb7 H6 H7 HB6
      try simp only [Act.put, List.setIfInBounds_toArray, List.set_cons_zero, List.set_cons_succ]
      refine midT_cons (by rfl) (fun K hK => ?_)
      rw [if_pos (by rfl)]
      go_simp
      refine hK.out _ _ (HSS.out w7 HB7.out) (fun _ => ?_)
      clear hK K
      try simp only [Act.put, List.setIfInBounds_toArray, List.set_cons_zero, List.set_cons_succ]
      refine midT_cons (by rfl) (fun K hK => ?_)
      rw [if_pos (by rfl)]
      go_simp
      have hb8 := bl_alloc HB7.out (.cells #[.string s, .slice wa lN wc, .slice fa' fN fc', .slice ta' tN tc'] 82)
      have hb78 := bl_alloc (Below.refl _ w7) (.cells #[.string s, .slice wa lN wc, .slice fa' fN fc', .slice ta' tN tc'] 82)
      have hD8 := Blk.new w7 #[.string s, .slice wa lN wc, .slice fa' fN fc', .slice ta' tN tc'] 82
      obtain ⟨D, hD⟩ : ∃ x, x = w7.heap.size := ⟨_, rfl⟩
      obtain ⟨w8, hw8⟩ : ∃ x, x = w7.alloc (.cells #[.string s, .slice wa lN wc, .slice fa' fN fc', .slice ta' tN tc'] 82) := ⟨_, rfl⟩
      rw [← hw8] at hb8 hD8 hb78 ⊢
      rw [← hD] at hD8 ⊢
      have HD8 : Hid (Rd w8 (some ⟨D, 0, none⟩) (fl encEn [(⟨s, (wa, lN, wc), (fa', fN, fc'), (ta', tN, tc')⟩ : En)])) := rd_of_blkQ (cs := fl encEn [(⟨s, (wa, lN, wc), (fa', fN, fc'), (ta', tN, tc')⟩ : En)]) (t := 82) hD8
      have HF8 := Lib.hid (owns_below H67.out hb78)
      have HT8 := Lib.hid (owns_below H77.out hb78)
      have HB8 := Lib.hid hb8
      refine hK.out _ _ (HSS.out w8 hb8) (fun _ => ?_)
      clear hK K hD hw8 hD8 hb8 hb78 H67 H77 HB7
      try simp only [Act.put, List.setIfInBounds_toArray, List.set_cons_zero, List.set_cons_succ]
      have hP8 := hP.out.bl (bl_trans HBb.out HB8.out)
      have HL8 : Hid (w8.ownsRow 0 82 4 (.slice rn.A n rn.c) n (fl encEn rn.ens)) := by have h := hP8.list; rw [HLNN.out] at h; exact h
      have HRN : Hid (rn.ens.length = n) := by rw [hP8.len]; exact HLNN.out
      have HP8 := Lib.hid hP8
      have HS8 := Lib.hid (HSS.out w8 HB8.out)
      have HE8 := Lib.hid (HEb.out.below HB8.out)
      have HB8r := Lib.hid (bl_trans HBb.out HB8.out)
      clear hP8 HSS HEb
      refine midT_cons (by rfl) (fun K hK => ?_)
      rw [if_pos (by rfl)]
      have hnN := HNN.out
      refine wp_pushs encEn_len (by decide) encEn_one Tryd.underlying71 infoEn rfl (.tmp 32) (.tmp 44) rfl (.slice rn.A n rn.c) rn.ens n HRN.out.symm rfl HL8.out (some ⟨D, 0, none⟩) 1 1 [(⟨s, (wa, lN, wc), (fa', fN, fc'), (ta', tN, tc')⟩ : En)] rfl rfl HD8.out (fun e => by cases e) (by omega) (by decide) (by omega) ?_
      intro v9 w9 h91 h92 h93
      obtain ⟨A', c', rfl, _⟩ := owns_slice h91
      have nown : ∀ b t, b < w8.heap.size → kind w8 b = some (some t) → t ≠ 82 → some b ≠ (Value.slice rn.A n rn.c).ownBlock := fun b t hb k q e => by
        have h1 := own_kind HL8.out e.symm
        rw [k] at h1
        exact q (by simpa using h1)
      have hb9 : Keeps (AddT g2 rn n) wr w9 := (Keeps.of_below HB8r.out).trans (Keeps.of_grown (O := AddT g2 rn n) h92 (fun k e => .inr (.inr e))) (fun x q => .inl q)
      have k9 : Blk w9 g2 #[.slice rn.A n rn.c, .slice rn.B ls.length rn.d, .map (some rn.mb)] 74 := by
        have h := HP8.out.blk
        rw [HLNN.out] at h
        exact h.grown h92 (nown _ _ h.lt h.kind (by decide))
      have E9 : Blk w9 E #[.string s, .slice wa lN wc, .slice fa fN fc, .slice ta tN tc] 82 := HE8.out.grown h92 fun e => by
        have h := hP.out.list
        rw [HLNN.out] at h
        have := (h.lt E e.symm).2
        have := HEW.out
        omega
      have M9 : MH w9 rn.mb n (gF ((es.take n).map eK)) (gG ((es.take n).map eK)) := by
        have h := HP8.out.map
        rw [HLNN.out] at h
        refine h.kept h92 fun e => ?_
        have h1 := own_kind HL8.out e.symm
        rw [h.kind] at h1
        exact absurd h1 (by decide)
      have F9 : w9.ownsRow wb.heap.size 3 1 (.slice fa' fN fc') fN (fl encI (frI ls n)) := HF8.out.kept h92 (owns_neQ HF8.out HL8.out (by decide))
      have T9 : w9.ownsRow wb.heap.size 3 1 (.slice ta' tN tc') tN (fl encI (toI ls n)) := HT8.out.kept h92 (owns_neQ HT8.out HL8.out (by decide))
      have HBL9 : Hid (∀ b, (Value.slice A' (n + 1) c').ownBlock = some b → (Value.slice rn.A n rn.c).ownBlock = some b ∨ wr.heap.size ≤ b) := fun b e => by
        rcases h93 with q | q
        · exact .inl (q ▸ e)
        · rw [q] at e
          have := Option.some.inj e
          have := HB8r.out.size
          exact .inr (by omega)
      have H9 := Lib.hid h91
      have HB9 := Lib.hid hb9
      have K9 := Lib.hid k9
      have HE9 := Lib.hid E9
      have HM9 := Lib.hid M9
      have HF9 := Lib.hid F9
      have HT9 := Lib.hid T9
      refine hK.out _ _ ⟨k9.cell 0, E9.cell 0, E9.cell 1, E9.cell 2, E9.cell 3⟩ (fun _ => ?_)
      have e9 : w9.cell? ⟨g2, 0, none⟩ = some (.slice rn.A n rn.c) := k9.cell 0
      have f9 : w9.frozen? ⟨g2, 0, none⟩ = false := k9.free 0
      clear hK K h91 h92 h93 hb9 k9 E9 M9 F9 T9 HD8 HF8 HT8 HL8 HS8 HE8 HB8 nown
      try simp only [Act.put, List.setIfInBounds_toArray, List.set_cons_zero, List.set_cons_succ]
      refine midT_nil ?_
      simp only [List.drop_succ_cons, List.drop_zero]
      go_wp2_with fail
      refine NoPanic.normal ?_
      have hk8 := K9.out.set 0 (.slice A' (n + 1) c')
      have H8 := Lib.hid (owns_setQ H9.out K9.out (by decide) 0 (.slice A' (n + 1) c'))
      have F8 := Lib.hid (owns_setQ HF9.out K9.out (by decide) 0 (.slice A' (n + 1) c'))
      have T8 := Lib.hid (owns_setQ HT9.out K9.out (by decide) 0 (.slice A' (n + 1) c'))
      have M8 := Lib.hid (HM9.out.setQ K9.out 0 (.slice A' (n + 1) c'))
      have E8 := Lib.hid (HE9.out.other (B' := g2) (fun e => by
        have := HEW.out
        have := hP.out.blk.lt
        omega) 0 (.slice A' (n + 1) c'))
      have hbs := HB9.out.trans (Keeps.of_set (O := AddT g2 rn n) w9 g2 0 (.slice A' (n + 1) c') (.inl rfl)) (fun x q => .inl q)
      have HB8 := Lib.hid hbs
      have K8 : Hid (Blk (w9.setCell ⟨g2, 0, none⟩ (.slice A' (n + 1) c')) g2 #[.slice A' (n + 1) c', .slice rn.B ls.length rn.d, .map (some rn.mb)] 74) := hk8
      obtain ⟨wc8, hw8⟩ : ∃ x, x = w9.setCell ⟨g2, 0, none⟩ (.slice A' (n + 1) c') := ⟨_, rfl⟩
      rw [← hw8] at H8 F8 T8 M8 E8 HB8 K8 ⊢
      clear hk8 hbs hw8 K9 H9 HF9 HT9 HM9 HE9 HB9 e9 f9
      have d2 : wc8.cell? ⟨g2, 2, none⟩ = some (.map (some rn.mb)) := K8.out.cell 2
      have g0 : wc8.cell? ⟨E, 0, none⟩ = some (.string s) := E8.out.cell 0
      have g1 : wc8.cell? ⟨E, 1, none⟩ = some (.slice wa lN wc) := E8.out.cell 1
      go_upto_region 9 with fail
      have HTO : Hid (∀ k, AddT g2 rn n k → On k) := fun k q => by
        rcases q with rfl | rfl | q
        · exact hP.out.oG
        · exact hP.out.oM
        · exact hP.out.oL k (by rw [HLNN.out]; exact q)
      have hb8w : ∀ W, Below wc8.heap.size wc8 W → Below w.heap.size w W := fun W hWb => hW.out.trans ((HB8.out.bel hW.out.size fun k q => hOn.out k (HTO.out k q)).trans (hWb.mono (Nat.le_trans hW.out.size HB8.out.size)))
      have HB8W := Lib.hid hb8w
      clear hb8w
      refine wp_region_order (S := fun w' => w'.cell? ⟨g2, 2, none⟩ = some (.map (some rn.mb)) ∧ w'.cell? ⟨E, 0, none⟩ = some (.string s) ∧ w'.cell? ⟨E, 1, none⟩ = some (.slice wa lN wc)) 10 [0,1,2,3,4,5,6,7,9] [8] (by kernel_rfl) (by kernel_rfl) ⟨d2, g0, g1⟩ ?_
      iterate 9 (refine headT_cons (by rfl) (by rfl) (by intro w hSw; obtain ⟨s0, s1, s2⟩ := hSw; go_simp; try rfl) ?_; simp only [Act.put, List.setIfInBounds_toArray, List.set_cons_zero, List.set_cons_succ])
      refine headT_nil ?_
      obtain ⟨wd, hwd⟩ : ∃ x, x = wc8.drew := ⟨_, rfl⟩
      rw [← hwd]
      have hD8 : Below wc8.heap.size wc8 wd := by rw [hwd]; exact bl_drewN (Below.refl _ _) 1
      clear hwd d2 g0 g1
      have hKd := HKn.out.at (HB8W.out wd hD8)
      have HKd := Lib.hid (key_any s wa lN wc l wd hKd.len hKd.it HLN.out (by have := HKn.out.num; rw [HLN.out]; exact this) ((rd_of_owns HSO.out).bl (HB8W.out wd hD8)) HKn.out.fit (by rw [HLN.out]; exact hKd.fmt))
      have HSZ := Lib.hid hKd.size
      clear hKd
      refine midT_cons (by rfl) (fun K hK => ?_)
      rw [if_pos (by rfl)]
      go_simp
      refine HKd.out.mono ?_
      rintro e w10 ⟨rfl, hb10⟩
      have h810 := bl_trans hD8 hb10
      have M10 := Lib.hid (M8.out.bl h810)
      have H10 := Lib.hid (owns_below H8.out h810)
      have F10 := Lib.hid (owns_below F8.out h810)
      have T10 := Lib.hid (owns_below T8.out h810)
      have K10 := Lib.hid (K8.out.below h810)
      have E10 := Lib.hid (E8.out.below h810)
      have HB10 := Lib.hid (HB8.out.trans (Keeps.of_below (O := AddT g2 rn n) h810) (fun x q => .inl q))
      refine hK.out _ _ ⟨K10.out.cell 2, E10.out.cell 0, E10.out.cell 1⟩ (fun _ => ?_)
      clear hK K hD8 hb10 h810 M8 H8 F8 T8 K8 E8 HB8 HKd E10 HB8W
      try simp only [Act.put, List.setIfInBounds_toArray, List.set_cons_zero, List.set_cons_succ]
      refine midT_nil ?_
      simp only [List.drop_succ_cons, List.drop_zero]
      have hnN2 := HNN.out
      refine wpList_putH rfl (.tmp 51) (.tmp 56) (.tmp 57) 72 rfl Tryd.underlying72 rfl M10.out (by omega) (keyB s l) rfl (n : Int) rfl HSZ.out (wf_natQ (by omega)) ?_
      intro w11 h111 h112
      have HB11 : Hid (Keeps (AddT g2 rn n) wr w11) := HB10.out.trans (Keeps.of_grown (O := AddT g2 rn n) h112 (fun k e => .inr (.inl (Option.some.inj e).symm))) (fun x q => .inl q)
      have nm : ∀ b t, kind w10 b = some (some t) → some b ≠ some rn.mb := fun b t hk e => by
        have e' := Option.some.inj e
        rw [e', M10.out.kind] at hk
        simp at hk
      have nmo : ∀ {base e k m : Nat} {v : Value} {xs : List Value}, w10.ownsRow base e k v m xs → v.ownBlock = none ∨ v.ownBlock ≠ some rn.mb := fun {base e k m v xs} h => by
        cases q : v.ownBlock with
        | none => exact .inl rfl
        | some b => exact .inr (nm b _ (own_kind h q))
      have K11 := Lib.hid (K10.out.grown h112 (nm g2 _ K10.out.kind))
      have H11 := Lib.hid (H10.out.kept h112 (nmo H10.out))
      have F11 := Lib.hid (F10.out.kept h112 (nmo F10.out))
      have T11 := Lib.hid (T10.out.kept h112 (nmo T10.out))
      have M11 := Lib.hid h111
      clear h111 h112 nm nmo M10 H10 F10 T10 K10 HB10
      go_wp2_with fail
      refine NoPanic.normal ?_
      go_wp2_with fail
      have hnk : n < es.length := by rw [← HN.out]; exact hlt
      have hpair : es.getD n etD = (s, l) := by rw [HS.out, HL.out]
      have htk : es.take (n + 1) = es.take n ++ [(s, l)] := by
        rw [List.take_add_one, List.getElem?_eq_getElem hnk]
        rw [List.getD_eq_getElem?_getD, List.getElem?_eq_getElem hnk] at hpair
        simp only [Option.getD_some] at hpair
        rw [hpair]
        rfl
      have hG : gG ((es.take n).map eK) (keyB s l) = false := gG_take HG.out.nod hnk hpair
      have hK2 : Keeps (AddT g2 rn (es.take n).length) wr w11 := by rw [HLNN.out]; exact HB11.out
      have hblk2 := K11.out
      have hlist2 := H11.out
      have hmap2 := M11.out
      have hbl2 := HBL9.out
      have hfr2 := owns_mono F11.out (HBb.out.size)
      have hto2 := owns_mono T11.out (HBb.out.size)
      have hwl := HLN.out
      have hb11w : Below w.heap.size w w11 := hW.out.trans (HB11.out.bel hW.out.size fun k q => hOn.out k (HTO.out k q))
      have hsn2 := owns_below HSO.out hb11w
      have hFN := HFN.out
      have hTN := HTN.out
      have hLNN := HLNN.out
      have hnew := hP.out.add hK2 s l (A' := A') (c' := c') (xw := (wa, lN, wc)) (xf := (fa', fN, fc')) (xt := (ta', tN, tc')) (by rw [hLNN]; exact hblk2) (by rw [hLNN]; exact hlist2) (by rw [hLNN]; exact hbl2) (by rw [hLNN]; exact hmap2) (by rw [← hwl]; exact hsn2) (fun b e q => by have := HSL.out b e; have := hOn.out b q; omega) (by rw [hLNN, ← hFN]; exact hfr2) (by rw [hLNN, ← hTN]; exact hto2) HDD.out hG
      have hnOn : ∀ k, (On k ∨ (Value.slice A' ((es.take n).length + 1) c').ownBlock = some k ∨ (slR (fa', fN, fc')).ownBlock = some k ∨ (slR (ta', tN, tc')).ownBlock = some k) → w.heap.size ≤ k := fun k q => by
        rcases q with q | q | q | q
        · exact hOn.out k q
        · rw [hLNN] at q
          rcases hbl2 k q with q | q
          · exact hOn.out k (HTO.out k (.inr (.inr q)))
          · exact Nat.le_trans hW.out.size q
        · exact Nat.le_trans hW.out.size (hfr2.lt k q).1
        · exact Nat.le_trans hW.out.size (hto2.lt k q).1
      refine ⟨⟨n + 1, _, _, by omega, by simp, htk ▸ hnew, hb11w, hnOn⟩, by simp [intOf]; omega⟩
    · obtain rfl : n = N := by omega
      go_wp2_with fail
      go_ret
      have hP' : GrP wr On g2 rn es ls (frI ls) (toI ls) := by
        have h := hP.out
        rw [HN.out, List.take_length] at h
        exact h
      exact ⟨On, g2, rn, rfl, hP'.done HG.out.nE HG.out.nL HG.out.inr HG.out.fit HG.out.nod, hOn.out, hW.out⟩
end Go.Proofs.YtmfomjaomhohkaaDoor
namespace Go.Proofs.YtmfomjaomhohkaaDoor
open Go Go.RowKit Go.Shelf
set_option maxHeartbeats 16000000 in
set_option maxRecDepth 100000 in
theorem nil_any (w : World) (k : Int) (s : ByteArray) (a : Option Addr) (n c : Nat) (x1 x2 x3 p q : Int) : Calls Tryd.prog 9 #[.agg #[.int .i64 k, .string s, .slice a n c, .int .i64 x1, .int .i64 x2, .int .i64 x3], .int .i64 p, .int .i64 q] w fun e w' => e = .returned (.bool true) ∧ Below w.heap.size w w' := by
  go_enter Tryd.func9, Tryd.ntmps9
  go_wp2_with fail
  generalize hW : World.alloc _ _ = W
  have HBW : Hid (Below w.heap.size w W) := by rw [← hW]; show Below _ _ _; repeat (first | exact Below.refl _ _ | refine bl_alloc ?_ _)
  obtain ⟨tS, hS⟩ : ∃ t, Blk W w.heap.size #[.int .i64 k, .string s, .slice a n c, .int .i64 x1, .int .i64 x2, .int .i64 x3] t := by refine ⟨?t1, ?h1⟩; case h1 => (rw [← hW]; refine Blk.alloc (Blk.alloc (Blk.newN _ _ ?_) _) _; rfl)
  have hZ : Blk W (w.heap.size + 1) #[.slice none 0 0, .slice none 0 0, .map none] 74 := by rw [← hW]; repeat (first | (refine Blk.newN _ _ ?_; simp; done) | refine Blk.alloc ?_ _)
  obtain ⟨tL, hL⟩ : ∃ t, Blk W (w.heap.size + 1 + 1) #[.pointer none, .pointer (some ⟨w.heap.size + 1, 0, none⟩)] t := by refine ⟨?t2, ?h2⟩; case h2 => (rw [← hW]; refine Blk.newN _ _ ?_; simp; done)
  clear hW
  obtain ⟨L, hLe⟩ : ∃ y, y = w.heap.size + 1 + 1 := ⟨_, rfl⟩
  rw [← hLe] at hL ⊢
  obtain ⟨Z, hZe⟩ : ∃ y, y = w.heap.size + 1 := ⟨_, rfl⟩
  rw [← hZe] at hL hZ ⊢
  obtain ⟨S, hSe⟩ : ∃ y, y = w.heap.size := ⟨_, rfl⟩
  rw [← hSe] at hS ⊢
  have HLN : Hid (∀ i, i < 2 → ∃ o, GrNo W (.pointer o) ∧ L < W.heap.size ∧ W.cell? ⟨L, i, none⟩ = some (.pointer o)) := fun i hi => by
    match i, hi with
    | 0, _ => exact ⟨none, .inl rfl, hL.lt, hL.cell 0⟩
    | 1, _ => exact ⟨some ⟨Z, 0, none⟩, .inr ⟨Z, rfl, hZ⟩, hL.lt, hL.cell 1⟩
  have HS := Lib.hid hS
  have HR0 : Hid (Below W.heap.size W W) := Below.refl _ _
  clear hL hZ hS hLe hZe hSe
  go_loopw [32] (fun x wr => ∃ i : Nat, i ≤ 2 ∧ x = .int .i64 i ∧ Hid (Below W.heap.size W wr)) (fun x _ => 2 - (intOf x).toNat)
  case atStart => exact ⟨0, by omega, rfl, HR0⟩
  case round =>
    clear HR0
    obtain ⟨i, hi, rfl, hB⟩ := hrel
    by_cases hlt : i < 2
    · obtain ⟨o, hN, hLt, hc⟩ := HLN.out i hlt
      have c0 : wr.cell? ⟨L, i, none⟩ = some (.pointer o) := (hB.out.cell (p := ⟨L, i, none⟩) hLt).trans hc
      have HN := Lib.hid (hN.bl hB.out)
      have hS := HS.out.below hB.out
      have s1 : wr.cell? ⟨S, 1, none⟩ = some (.string s) := hS.cell 1
      have s2 : wr.cell? ⟨S, 2, none⟩ = some (.slice a n c) := hS.cell 2
      have s3 : wr.cell? ⟨S, 3, none⟩ = some (.int .i64 x1) := hS.cell 3
      have s4 : wr.cell? ⟨S, 4, none⟩ = some (.int .i64 x2) := hS.cell 4
      have s5 : wr.cell? ⟨S, 5, none⟩ = some (.int .i64 x3) := hS.cell 5
      have HSR := Lib.hid hS
      clear hN hLt hc hS
      go_wp2_with fail
      refine (add_no HN.out (.string s) (.slice a n c)).mono ?_
      rintro e y ⟨rfl, hw⟩
      subst y
      go_wp2_with fail
      refine (link_no HN.out x1 x2 x3).mono ?_
      rintro e y1 ⟨rfl, hb⟩
      have HB1 : Hid (Below wr.heap.size wr y1) := hb
      have s1 : y1.cell? ⟨S, 1, none⟩ = some (.string s) := (HSR.out.below hb).cell 1
      have s2 : y1.cell? ⟨S, 2, none⟩ = some (.slice a n c) := (HSR.out.below hb).cell 2
      clear hb
      go_wp2_with fail
      refine (find_no (HN.out.bl HB1.out) (.string s) (.slice a n c)).mono ?_
      rintro e y ⟨rfl, hw⟩
      subst y
      go_wp2_with fail
      refine (at_no (HN.out.bl HB1.out) p).mono ?_
      rintro e y ⟨rfl, hw⟩
      subst y
      clear s1 s2 s3 s4 s5 c0
      go_wp2_with fail
      refine (gsources_no (HN.out.bl HB1.out) p).mono ?_
      rintro e y2 ⟨rfl, hb⟩
      have HB2 := Lib.hid (bl_trans HB1.out hb)
      clear hb HB1
      go_wp2_with fail
      refine (kin_no (HN.out.bl HB2.out) p q).mono ?_
      rintro e y3 ⟨rfl, hb⟩
      have HB3 := Lib.hid (bl_trans HB2.out hb)
      clear hb HB2
      go_wp2_with fail
      refine (path_no (HN.out.bl HB3.out) p q).mono ?_
      rintro e y4 ⟨rfl, hb⟩
      have HB4 := Lib.hid (bl_trans HB3.out hb)
      clear hb HB3
      go_wp2_with fail
      refine (inherited_no (HN.out.bl HB4.out) p).mono ?_
      rintro e y5 ⟨rfl, hb⟩
      have HB5 := Lib.hid (bl_trans HB4.out hb)
      have s1 : y5.cell? ⟨S, 1, none⟩ = some (.string s) := (HSR.out.below HB5.out).cell 1
      clear hb HB4
      go_wp2_with fail
      refine (len_no (HN.out.bl HB5.out)).mono ?_
      rintro e y ⟨rfl, hw⟩
      subst y
      go_wp2_with fail
      refine (links_no (HN.out.bl HB5.out)).mono ?_
      rintro e y ⟨rfl, hw⟩
      subst y
      go_wp2_with fail
      refine (doublets_no (HN.out.bl HB5.out) s).mono ?_
      rintro e y ⟨rfl, hw⟩
      subst y
      go_wp2_with fail
      refine (copy_no (HN.out.bl HB5.out)).mono ?_
      rintro e y ⟨rfl, hw⟩
      subst y
      have HB6 := Lib.hid (bl_trans hB.out HB5.out)
      clear HN HB5 HSR hB s1
      go_wp2_with fail
      go_roundw
      case rel => exact ⟨i + 1, by omega, by go_num, HB6⟩
      case measure => simp [intOf]; omega
    · have HB6 := Lib.hid (HBW.out.trans (hB.out.mono HBW.out.size))
      obtain rfl : i = 2 := by omega
      clear hB hlt hi
      go_wp2_with fail
      refine (works_any wr).mono ?_
      rintro e y ⟨rfl, hb⟩
      have HB7 := Lib.hid (HB6.out.trans (hb.mono HB6.out.size))
      clear hb
      go_wp2_with fail
      go_ret
      exact ⟨rfl, HB7.out⟩
end Go.Proofs.YtmfomjaomhohkaaDoor
namespace Go.Proofs.YtmfomjaomhohkaaDoor
open Go.ChangeShapes Go.WideShapes Go.RowKit Go.Deep
theorem cellsStep : Tryd.prog.cellsOf 70 = 6 := by kernel_rfl
theorem cellsLnk : Tryd.prog.cellsOf 33 = 3 := by kernel_rfl
theorem cellsWd : Tryd.prog.cellsOf 58 = 1 := by kernel_rfl
theorem cellsI3 : Tryd.prog.cellsOf 3 = 1 := by kernel_rfl
theorem cellsS9 : Tryd.prog.cellsOf 9 = 1 := by kernel_rfl
theorem list_six {cs : List Value} (h : cs.length = 6) : ∃ c0 c1 c2 c3 c4 c5, cs = [c0, c1, c2, c3, c4, c5] := by
  match cs, h with
  | [c0, c1, c2, c3, c4, c5], _ => exact ⟨c0, c1, c2, c3, c4, c5, rfl⟩
set_option maxRecDepth 100000 in
theorem open_step {H : Type} {enc : TypeId × Value → H} {W : World} {r : Reach} {b0 : Nat} {v : Value} {d : DataW H} {ps : List MemPlace} (hv : Value.okWide Tryd.prog W r b0 70 v) (h : DataW.Trod enc Tryd.prog W 0 (fun _ => true) true 70 v d ps) :
    ∃ (k : Int) (s : ByteArray) (a : Option Addr) (n c : Nat) (x1 x2 x3 : Int), v = .agg #[.int .i64 k, .string s, .slice a n c, .int .i64 x1, .int .i64 x2, .int .i64 x3] := by
  obtain ⟨cs, rfl, hcs⟩ := okWide_struct Tryd.underlying70 hv
  obtain ⟨fuel, hf⟩ := h
  obtain ⟨y0, y1, y2, y3, m, hdp, hlen, h0, h1, h2, h3⟩ := Go.Joins.trod_struct4 Tryd.underlying70 hf
  have hlen2 : cs.toList.length = 6 := by rw [Array.length_toList, hcs, cellsStep]
  obtain ⟨c0, c1, c2, c3, c4, c5, hc⟩ := list_six hlen2
  have hc2 : cs = #[c0, c1, c2, c3, c4, c5] := by rw [← Array.toList_inj]; exact hc
  subst hc2
  simp only [cellsI3, cellsS9, cellsWd, cellsLnk, Value.cells] at h0 h1 h2 h3
  obtain ⟨z0, e0, e00, w0⟩ := DataW.trod_int Tryd.underlying3 h0
  obtain ⟨z1, e1, e11, w1⟩ := DataW.trod_string Tryd.underlying9 h1
  obtain ⟨k0, k1, k2, m3, hdp3, hlen3, g0, g1, g2⟩ := trod_struct3 Tryd.underlying33 h3
  simp only [cellsI3] at g0 g1 g2
  obtain ⟨z3, e3, _, _⟩ := DataW.trod_int Tryd.underlying3 g0
  obtain ⟨z4, e4, _, _⟩ := DataW.trod_int Tryd.underlying3 g1
  obtain ⟨z5, e5, _, _⟩ := DataW.trod_int Tryd.underlying3 g2
  have h6 : ∃ a n c, c2 = .slice a n c := by
    rcases DataW.trod_slice Tryd.underlying58 h2 with ⟨e, _⟩ | ⟨a, n, c, _, _, _, _, e, _⟩
    · simp at e; exact ⟨_, _, _, e⟩
    · simp at e; exact ⟨_, _, _, e⟩
  obtain ⟨a, n, c, rfl⟩ := h6
  simp at e0 e1 e3 e4 e5
  subst e0 e1 e3 e4 e5
  exact ⟨_, _, _, _, _, _, _, _, rfl⟩
end Go.Proofs.YtmfomjaomhohkaaDoor
