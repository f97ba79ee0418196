/- slices.Sort of numbers of 64 bits: what the sort keeps from round to round (plain). slices.Sort of numbers of 64 bits: the whole. slices.AppendSeq, Collect at numbers of 64 bits, over whatever iterator. slices.Sort, Sorted at numbers of 64 bits: rows of the call's own. slices.Values of rows of numbers; the numbers of a set in increasing order. The document's Check of a table; compatible sets; the first conflict of a table, in the program and in the document. The sets of a tree's nodes fit one another (plain). The clades of a tree by the order of its leaves' names (plain). slices.BinarySearch of a name in sorted names. Rows of names of the call's own: append, slices.Sort. treecmp.shapeOf of a valid tree. treecmp.shapes: the shapes of trees in a row. -/
import Derived.Test.YtfgkjofdgohacaaGreatDoorGC
import Derived.Test.YtfgkjofdgohacaaGreatDoorGB
import Derived.Test.YtfgkjofdgohacaaGreatDoorGA
import Derived.RangeFuncWrites
namespace Go.Proofs.YtfgkjofdgohacaaGreatDoor
open Go Go.RowKit Go.Shelf Go.Sort
theorem perm_list {a b : Nat} {d d' : Array Nat} (h : PermIn a b d d') (hb : b ≤ d.size) : d'.toList.Perm d.toList := by
  have h1 := (permIn_mono d d' a b 0 d.size (Nat.zero_le _) hb (Nat.le_refl _) h).2.2
  have e1 : d.extract 0 d.size = d := by simp
  have e2 : d'.extract 0 d.size = d' := by rw [← h.1]; simp
  rw [e1, e2] at h1
  exact h1
theorem perm_nd {a b : Nat} {d d' : Array Nat} (h : PermIn a b d d') (hb : b ≤ d.size) (hn : d.toList.Nodup) : d'.toList.Nodup := (perm_list h hb).nodup_iff.2 hn
theorem nd_at {d : Array Nat} (hn : d.toList.Nodup) {i j : Nat} (hi : i < d.size) (hj : j < d.size) (hij : i ≠ j) : d[i]! ≠ d[j]! := by
  rw [getElem!_pos d i hi, getElem!_pos d j hj]
  intro e
  have := (List.getElem_inj hn (i := i) (j := j) (h₀ := by simpa using hi) (h₁ := by simpa using hj)).1 (by simpa using e)
  exact hij this
/-- What lies left of a range is less than all in it. -/
def BelS (a b : Nat) (d : Array Nat) : Prop := a = 0 ∨ ∀ i, a ≤ i → i < b → ltN d[a - 1]! d[i]! = true
theorem BelS.perm {a b : Nat} {d d' : Array Nat} (h : BelS a b d) (hb : b ≤ d.size) (hp : PermIn a b d d') : BelS a b d' := by
  by_cases h0 : a = 0
  · exact .inl h0
  · rcases h with h | h
    · exact .inl h
    · refine .inr fun i h1 h2 => ?_
      rw [hp.2.1 (a - 1) (.inl (by omega))]
      exact permIn_all d d' a b (fun x => ltN d[a - 1]! x = true) hb hp h i h1 h2
theorem BelS.below {a b : Nat} {d : Array Nat} (h : BelS a b d) : Sort.Below ltN a b d := by
  rcases h with h | h
  · exact .inl h
  · exact .inr fun i h1 h2 => swoN.asymm (h i h1 h2)
theorem BelS.mono {a b c : Nat} {d : Array Nat} (h : BelS a b d) (hc : c ≤ b) : BelS a c d := by
  rcases h with h | h
  · exact .inl h
  · exact .inr fun i h1 h2 => h i h1 (by omega)
/-- Between two rounds. -/
structure PdqI (a b : Nat) (d : Array Nat) (w : World) (blk off : Nat) (a' b' : Nat) (dk : Array Nat) (wr : World) : Prop where
  aa : a ≤ a'
  bb : b' ≤ b
  ab : a' ≤ b'
  bd : b ≤ d.size
  size : dk.size = d.size
  row : RowTo w wr blk off dk
  nd : dk.toList.Nodup
  bel : BelS a' b' dk
  perm : PermIn a b d dk
  cont : ∀ d2, PermIn a' b' dk d2 → SortedIn ltN a' b' d2 → SortedIn ltN a b d2
theorem PdqI.start {a b : Nat} {d : Array Nat} {w : World} {blk off : Nat} (hab : a ≤ b) (hb : b ≤ d.size) (hH : Holds encN w blk off d) (hn : d.toList.Nodup) (hB : BelS a b d) : PdqI a b d w blk off a b d w :=
  ⟨Nat.le_refl _, Nat.le_refl _, hab, hb, rfl, RowTo.self hH, hn, hB, permIn_refl _ _ _, fun _ _ h => h⟩
theorem PdqI.turn {a b a' b' : Nat} {d dk dm : Array Nat} {w wr wm : World} {blk off : Nat} (h : PdqI a b d w blk off a' b' dk wr) (hbw : blk < w.heap.size) (hp : PermIn a' b' dk dm) (hr : RowTo wr wm blk off dm) : PdqI a b d w blk off a' b' dm wm := by
  have hbk : b' ≤ dk.size := by have := h.bd; have := h.bb; have := h.size; omega
  refine ⟨h.aa, h.bb, h.ab, h.bd, by rw [hp.1, h.size], h.row.trans hr hp.1 hbw, perm_nd hp hbk h.nd, h.bel.perm hbk hp, permIn_trans _ _ _ _ _ h.perm (permIn_mono dk dm a' b' a b h.aa h.bb (by rw [h.size]; exact h.bd) hp), fun d2 h1 h2 => h.cont d2 (permIn_trans _ _ _ _ _ hp h1) h2⟩
theorem PdqI.draws {a b a' b' : Nat} {d dk : Array Nat} {w wr : World} {blk off : Nat} (h : PdqI a b d w blk off a' b' dk wr) (n : Nat) : PdqI a b d w blk off a' b' dk (wr.drewN n) :=
  ⟨h.aa, h.bb, h.ab, h.bd, h.size, h.row.draws n, h.nd, h.bel, h.perm, h.cont⟩
theorem PdqI.fin {a b a' b' : Nat} {d dk dm : Array Nat} {w wr wm : World} {blk off : Nat} (h : PdqI a b d w blk off a' b' dk wr) (hbw : blk < w.heap.size) (hp : PermIn a' b' dk dm) (hs : SortedIn ltN a' b' dm) (hr : RowTo wr wm blk off dm) : ∃ d', PermIn a b d d' ∧ SortedIn ltN a b d' ∧ RowTo w wm blk off d' :=
  ⟨dm, (h.turn hbw hp hr).perm, h.cont dm hp hs, (h.turn hbw hp hr).row⟩
theorem PdqI.holds {a b a' b' : Nat} {d dk : Array Nat} {w wr : World} {blk off : Nat} (h : PdqI a b d w blk off a' b' dk wr) (hH : Holds encN w blk off d) (hbw : blk < w.heap.size) : Holds encN wr blk off dk := h.row.holds hH h.size hbw
theorem PdqI.right {a b a' b' mid : Nat} {d dk dm : Array Nat} {w wr wm : World} {blk off : Nat} (h : PdqI a b d w blk off a' b' dk wr) (hbw : blk < w.heap.size) (hE : PartE a' b' dk dk mid) (hp : PermIn a' mid dk dm) (hs : SortedIn ltN a' mid dm) (hr : RowTo wr wm blk off dm) : PdqI a b d w blk off (mid + 1) b' dm wm := by
  have hbk : b' ≤ dk.size := by have := h.bd; have := h.bb; have := h.size; omega
  have ham := hE.am
  have hmb := hE.mb
  have hp2 : PermIn a' b' dk dm := permIn_mono dk dm a' mid a' b' (Nat.le_refl _) (by omega) hbk hp
  have h2 := h.turn hbw hp2 hr
  have em : dm[mid]! = dk[mid]! := hp.2.1 mid (.inr (Nat.le_refl _))
  have hlo : ∀ i, a' ≤ i → i < mid → ltN dm[i]! dm[mid]! = true := fun i h1 h3 => by
    rw [em]
    exact permIn_all dk dm a' mid (fun x => ltN x dk[mid]! = true) (by omega) hp hE.lo i h1 h3
  have hhi : ∀ i, mid < i → i < b' → ltN dm[i]! dm[mid]! = false := fun i h1 h3 => by
    rw [em, hp.2.1 i (.inr (by omega))]
    exact hE.hi i h1 h3
  refine ⟨by have := h.aa; omega, h.bb, by omega, h.bd, h2.size, h2.row, h2.nd, .inr fun i h1 h3 => ?_, h2.perm, fun d2 h1 h3 => ?_⟩
  · show ltN dm[mid + 1 - 1]! dm[i]! = true
    rw [Nat.add_sub_cancel]
    have hf := hhi i (by omega) h3
    have hne := nd_at h2.nd (i := i) (j := mid) (by rw [h2.size]; have := h.bd; have := h.bb; omega) (by rw [h2.size]; have := h.bd; have := h.bb; omega) (by omega)
    simp [ltN] at hf ⊢
    omega
  · have hp3 : PermIn a' b' dm d2 := permIn_mono dm d2 (mid + 1) b' a' b' (by omega) (Nat.le_refl _) (by rw [h2.size]; have := h.bd; have := h.bb; omega) h1
    refine h2.cont d2 hp3 ?_
    have em2 : d2[mid]! = dm[mid]! := h1.2.1 mid (.inl (by omega))
    refine sorted_glue swoN (mid := mid) (hs.congr fun i q1 q2 => h1.2.1 i (.inl (by omega))) h3 (fun i q1 q2 => ?_) fun i q1 q2 => ?_
    · rw [em2, h1.2.1 i (.inl (by omega))]; exact hlo i q1 q2
    · rw [em2]
      exact permIn_all dm d2 (mid + 1) b' (fun x => ltN x dm[mid]! = false) (by rw [h2.size]; have := h.bd; have := h.bb; omega) h1 (fun i r1 r2 => hhi i (by omega) r2) i (by omega) q2
theorem PdqI.left {a b a' b' mid : Nat} {d dk dm : Array Nat} {w wr wm : World} {blk off : Nat} (h : PdqI a b d w blk off a' b' dk wr) (hbw : blk < w.heap.size) (hE : PartE a' b' dk dk mid) (hp : PermIn (mid + 1) b' dk dm) (hs : SortedIn ltN (mid + 1) b' dm) (hr : RowTo wr wm blk off dm) : PdqI a b d w blk off a' mid dm wm := by
  have hbk : b' ≤ dk.size := by have := h.bd; have := h.bb; have := h.size; omega
  have ham := hE.am
  have hmb := hE.mb
  have hp2 : PermIn a' b' dk dm := permIn_mono dk dm (mid + 1) b' a' b' (by omega) (Nat.le_refl _) hbk hp
  have h2 := h.turn hbw hp2 hr
  have em : dm[mid]! = dk[mid]! := hp.2.1 mid (.inl (by omega))
  have hlo : ∀ i, a' ≤ i → i < mid → ltN dm[i]! dm[mid]! = true := fun i h1 h3 => by
    rw [em, hp.2.1 i (.inl (by omega))]
    exact hE.lo i h1 h3
  have hhi : ∀ i, mid < i → i < b' → ltN dm[i]! dm[mid]! = false := fun i h1 h3 => by
    rw [em]
    exact permIn_all dk dm (mid + 1) b' (fun x => ltN x dk[mid]! = false) hbk hp (fun i r1 r2 => hE.hi i (by omega) r2) i (by omega) h3
  refine ⟨h.aa, by have := h.bb; omega, ham, h.bd, h2.size, h2.row, h2.nd, h2.bel.mono (by omega), h2.perm, fun d2 h1 h3 => ?_⟩
  have hp3 : PermIn a' b' dm d2 := permIn_mono dm d2 a' mid a' b' (Nat.le_refl _) (by omega) (by rw [h2.size]; have := h.bd; have := h.bb; omega) h1
  refine h2.cont d2 hp3 ?_
  have em2 : d2[mid]! = dm[mid]! := h1.2.1 mid (.inr (Nat.le_refl _))
  refine sorted_glue swoN (mid := mid) h3 (hs.congr fun i q1 q2 => h1.2.1 i (.inr (by omega))) (fun i q1 q2 => ?_) fun i q1 q2 => ?_
  · rw [em2]
    exact permIn_all dm d2 a' mid (fun x => ltN x dm[mid]! = true) (by rw [h2.size]; have := h.bd; have := h.bb; omega) h1 hlo i q1 q2
  · rw [em2, h1.2.1 i (.inr (by omega))]; exact hhi i q1 q2
/-- The parts of a partition may be sorted by themselves. -/
theorem PdqI.subs {a b a' b' mid : Nat} {d dk : Array Nat} {w wr : World} {blk off : Nat} (h : PdqI a b d w blk off a' b' dk wr) (hE : PartE a' b' dk dk mid) : BelS a' mid dk ∧ BelS (mid + 1) b' dk := by
  have hmb := hE.mb
  refine ⟨h.bel.mono (by omega), .inr fun i h1 h3 => ?_⟩
  rw [Nat.add_sub_cancel]
  have hf := hE.hi i (by omega) h3
  have hne := nd_at h.nd (i := i) (j := mid) (by rw [h.size]; have := h.bd; have := h.bb; omega) (by rw [h.size]; have := h.bd; have := h.bb; omega) (by omega)
  simp [ltN] at hf ⊢
  omega
theorem PartE.self {a b mid : Nat} {d d' : Array Nat} (h : PartE a b d d' mid) : PartE a b d' d' mid := ⟨permIn_refl _ _ _, h.am, h.mb, h.lo, h.hi⟩
end Go.Proofs.YtfgkjofdgohacaaGreatDoor
namespace Go.Proofs.YtfgkjofdgohacaaGreatDoor
open Go Go.RowKit Go.Shelf Go.Sort
theorem cnt_row {w : World} {blk off : Nat} {d : Array Nat} (h : Holds encN w blk off d) (m s : Nat) : RowTo w (CntW w m s) blk off d :=
  ⟨m, #[.cells #[.int .i64 (s : Int)] 3], by rw [cnt_grow, putRow_self encN _ blk off d (holds_ahead _ _ m _ _ _ h)]⟩
def PdqPost (w : World) (blk off a b : Nat) (d : Array Nat) (e : Ending) (w' : World) : Prop :=
  e = .returned (.tuple #[]) ∧ ∃ d', PermIn a b d d' ∧ SortedIn ltN a b d' ∧ RowTo w w' blk off d'
set_option maxRecDepth 100000 in
set_option maxHeartbeats 16000000 in
theorem pdqU_any (blk off len cap : Nat) (hsz : len < 4611686018427387904) : ∀ (K a b limit : Nat) (d : Array Nat) (w : World), b - a ≤ K → d.size = len → Holds encN w blk off d → blk < w.heap.size → a ≤ b → b ≤ len → d.toList.Nodup → BelS a b d → limit ≤ 1000000 →
    Calls Tryz.prog 134 #[.slice (some ⟨blk, off, none⟩) len cap, .int .i64 a, .int .i64 b, .int .i64 limit] w (PdqPost w blk off a b d) := by
  intro K
  induction K using Nat.strongRecOn with
  | ind K ih =>
    intro a b limit d w hK hlen hH hbw hab hb hnd hBel hlim
    have HI0 := Lib.hid (PdqI.start hab (by rw [hlen]; exact hb) hH hnd hBel)
    have HH := Lib.hid hH
    have HLN := Lib.hid hlen
    have HBW := Lib.hid hbw
    have IH := Lib.hid ih
    have HL := Lib.hid (fun x y w => lessU_any x y w)
    clear hlen hH hbw hnd hBel ih
    go_enter Tryz.func134, Tryz.ntmps134
    go_wp2_with fail
    go_loopw [1, 2, 3, 8, 9, 10, 11, 12, 13, 14, 15, 16, 17, 18] (fun x1 x2 x3 x8 x9 _ _ _ _ _ _ _ _ _ wr => ∃ (a' b' lim : Nat) (wb wp : Bool) (dk : Array Nat), x1 = .int .i64 a' ∧ x2 = .int .i64 b' ∧ x3 = .int .i64 lim ∧ x8 = .bool wb ∧ x9 = .bool wp ∧ lim ≤ 1000000 ∧ Hid (PdqI a b d w blk off a' b' dk wr)) (fun x1 x2 _ _ _ _ _ _ _ _ _ _ _ _ _ => (intOf x2 - intOf x1).toNat)
    case atStart => exact ⟨a, b, limit, true, true, d, rfl, rfl, rfl, rfl, rfl, hlim, HI0⟩
    case round =>
      clear HI0 hlim
      obtain ⟨a', b', lim, wb, wp, dk, rfl, rfl, rfl, rfl, rfl, hlim, HI⟩ := hrel
      have haa := HI.out.aa
      have hbb := HI.out.bb
      have hab' := HI.out.ab
      have hsk : Hid (dk.size = len) := by show _ = _; rw [HI.out.size, HLN.out]
      have HHk := Lib.hid (HI.out.holds HH.out HBW.out)
      have HBk : Hid (blk < wr.heap.size) := Nat.lt_of_lt_of_le HBW.out HI.out.row.size
      obtain ⟨H, hHd⟩ : ∃ H, H = b' - a' := ⟨_, rfl⟩
      have ecast : (b' : Int) - (a' : Int) = (H : Int) := by omega
      have HHd := Lib.hid hHd
      have hHb : b' = a' + H := by omega
      have HHb := Lib.hid hHb
      clear hHd hHb
      by_cases h12 : H ≤ 12
      · have hC := insU_any blk off cap a' b' dk wr HHk.out hab' (by rw [hsk.out]; omega) (by rw [hsk.out]; exact hsz)
        rw [hsk.out] at hC
        have HC := Lib.hid hC
        have HS := Lib.hid (insertionSort_holds (lt := ltN) swoN dk a' b' hab' (by rw [hsk.out]; omega))
        clear hC
        go_wp2_with fail
        refine HC.out.mono ?_
        rintro e w1 ⟨rfl, n, hw1⟩
        have HW1 := Lib.hid hw1
        clear hw1
        go_wp2_with fail
        refine bodyPost_ret (results_none rfl _ _ _) rfl ?_
        exact ⟨rfl, HI.out.fin HBW.out HS.out.1 HS.out.2 (RowTo.of_put HW1.out)⟩
      · by_cases h0 : lim = 0
        · have hC := heapU_any blk off len cap a' b' dk hsk.out wr HHk.out hab' (by omega) hsz
          have HC := Lib.hid hC
          have HS := Lib.hid (heapSort_holds (lt := ltN) swoN dk a' b' hab' (by rw [hsk.out]; omega))
          clear hC
          have h0' : ((lim : Int) == 0) = true := by simp; omega
          go_wp2_with fail
          refine HC.out.mono ?_
          rintro e w1 ⟨rfl, n, hw1⟩
          have HW1 := Lib.hid hw1
          clear hw1
          go_wp2_with fail
          refine bodyPost_ret (results_none rfl _ _ _) rfl ?_
          exact ⟨rfl, HI.out.fin HBW.out HS.out.1 HS.out.2 (RowTo.of_put HW1.out)⟩
        · have h0' : ((lim : Int) == 0) = false := by simp; omega
          go_upto_if 35 with fail
          go_cut [3] (fun x wx => ∃ (lim' : Nat) (dm : Array Nat), x = .int .i64 lim' ∧ lim' ≤ 1000000 ∧ Hid (PdqI a b d w blk off a' b' dm wx))
          case first =>
            cases wb with
            | true =>
              go_wp2_with fail
              go_meet
              exact ⟨lim, dk, rfl, hlim, HI⟩
            | false =>
              have HC := Lib.hid (brkU_any blk off len cap a' b' dk hsk.out wr HHk.out HBk.out (by omega) (by omega) hsz)
              go_wp2_with fail
              refine HC.out.mono ?_
              rintro e w1 ⟨rfl, dm, hp, hr⟩
              have HP := Lib.hid (HI.out.turn HBW.out hp hr)
              clear hp hr
              go_wp2_with fail
              go_meet
              exact ⟨lim - 1, dm, by congr 1; omega, by omega, HP⟩
          case rest =>
            obtain ⟨lim', dm, rfl, hlim', HI2⟩ := hcut
            clear HI HHk HBk hsk
            have hsk : Hid (dm.size = len) := by show _ = _; rw [HI2.out.size, HLN.out]
            have HHk := Lib.hid (HI2.out.holds HH.out HBW.out)
            have HBk : Hid (blk < wc.heap.size) := Nat.lt_of_lt_of_le HBW.out HI2.out.row.size
            have HC := Lib.hid (pivU_any blk off len cap a' b' dm hsk.out wc HHk.out HBk.out (by omega) (by omega) hsz)
            go_upto_if 50 with (go_at_call 159; refine HC.out.mono ?_; rintro e w1 ⟨p, h, m, s, rfl, hp1, hp2, hh, rfl⟩)
            have HI3 : Hid (PdqI a b d w blk off a' b' dm (CntW wc m s)) := HI2.out.turn HBW.out (permIn_refl _ _ _) (cnt_row HHk.out m s)
            generalize CntW wc m s = w3 at *
            have HH3 := Lib.hid (HI3.out.holds HH.out HBW.out)
            clear HC HI2 HHk HBk
            go_cut [11, 12] (fun x y wx => ∃ (p' h' : Nat) (dn : Array Nat), x = .int .i64 p' ∧ y = .int .i64 h' ∧ a' ≤ p' ∧ p' < b' ∧ Hid (PdqI a b d w blk off a' b' dn wx))
            case first =>
              by_cases hd : h = 2
              · have hd' : ((h : Int) == 2) = true := by simp; omega
                have HC := Lib.hid (revU_any blk off len cap a' b' dm hsk.out w3 HH3.out (by omega) (by omega) hsz)
                go_wp2_with fail
                refine HC.out.mono ?_
                rintro e w1 ⟨rfl, n, dn, hp, hr⟩
                have HP := Lib.hid (HI3.out.turn HBW.out hp (RowTo.of_put hr))
                clear hp hr
                go_wp2_with fail
                go_meet
                exact ⟨b' - 1 - (p - a'), 1, dn, by congr 1; omega, rfl, by omega, by omega, HP⟩
              · have hd' : ((h : Int) == 2) = false := by simp; omega
                go_wp2_with fail
                go_meet
                exact ⟨p, h, dm, rfl, rfl, hp1, hp2, HI3⟩
            case rest =>
              obtain ⟨p', h', dn, rfl, rfl, hp1', hp2', HI4⟩ := hcut
              clear HI3 HH3 hsk
              have hsk : Hid (dn.size = len) := by show _ = _; rw [HI4.out.size, HLN.out]
              have HHk := Lib.hid (HI4.out.holds HH.out HBW.out)
              go_upto_region 15 with fail
              go_cut [68] (fun s wx => ∃ c : Bool, s = .bool c ∧ wx = wc)
              case first =>
                by_cases h1 : h' = 1
                · have h1' : ((h' : Int) == 1) = true := by simp; omega
                  cases wb <;> cases wp
                  all_goals
                    go_wp2_with fail
                    go_meet
                    exact ⟨_, rfl, rfl⟩
                · have h1' : ((h' : Int) == 1) = false := by simp; omega
                  cases wb <;> cases wp
                  all_goals
                    go_wp2_with fail
                    go_meet
                    exact ⟨_, rfl, rfl⟩
              case rest =>
                obtain ⟨c, rfl, rfl⟩ := hcut
                go_upto_if 68 with fail
                go_cut [10] (fun x wx => x = .int .i64 (H : Int) ∧ ∃ dq, Hid (PdqI a b d w blk off a' b' dq wx))
                case first =>
                  cases c with
                  | false =>
                    go_wp2_with fail
                    go_meet
                    exact ⟨rfl, dn, HI4⟩
                  | true =>
                    have HC := Lib.hid (partU_any blk off len cap a' b' dn hsk.out wc HHk.out (by omega) (by omega) hsz)
                    have HS := Lib.hid (partialInsertionSort_holds (lt := ltN) swoN dn a' b' (by omega) (by rw [hsk.out]; omega) HI4.out.bel.below)
                    obtain ⟨r, hr⟩ : ∃ r, r = partialInsertionSort ltN dn a' b' := ⟨_, rfl⟩
                    rw [← hr] at HC HS
                    clear hr
                    obtain ⟨r1, r2⟩ := r
                    go_wp2_with (go_at_call 161; refine HC.out.mono ?_; rintro e w1 ⟨rfl, n, hw1⟩; have HW1 := Lib.hid hw1; clear hw1)
                    · have hr2 : r2 = true := by assumption
                      refine bodyPost_ret (results_none rfl _ _ _) rfl ?_
                      exact ⟨rfl, HI4.out.fin HBW.out HS.out.1 (HS.out.2 hr2) (RowTo.of_put HW1.out)⟩
                    · go_meet
                      exact ⟨rfl, r1, HI4.out.turn HBW.out HS.out.1 (RowTo.of_put HW1.out)⟩
                case rest =>
                  obtain ⟨rfl, dq, HI5⟩ := hcut
                  clear HI4 HHk hsk
                  have hsk : Hid (dq.size = len) := by show _ = _; rw [HI5.out.size, HLN.out]
                  have HHk := Lib.hid (HI5.out.holds HH.out HBW.out)
                  obtain ⟨G, HG, hcw0, hfw0⟩ := row_fam HHk.out
                  have hcw : ∀ t, t < len → wc.cell? ⟨blk, off + t, none⟩ = some (.int .u64 (G t : Int)) := fun t ht => hcw0 t (by rw [hsk.out]; exact ht)
                  clear hcw0 hfw0
                  go_upto_region 17 with fail
                  go_cut [87] (fun s wx => s = .bool false ∧ Hid (PdqI a b d w blk off a' b' dq wx))
                  case first =>
                    by_cases ha0 : a' = 0
                    · have ha0' : ¬ ((0 : Int) < (a' : Int)) := by omega
                      have ha2 : decide (0 < a') = false := by simp; omega
                      have HA0 := Lib.hid ha0
                      clear ha0
                      go_wp2_with fail
                      go_quiet (fail)
                      go_wp2_with fail
                      go_meet
                      exact ⟨rfl, HI5.out.draws nq⟩
                    · have ha0' : (0 : Int) < (a' : Int) := by omega
                      have ha2 : decide (0 < a') = true := by simp; omega
                      have ha3 : 0 < a' := by omega
                      have hl : ltN (G (a' - 1)) (G p') = true := by
                        rcases HI5.out.bel with h | h
                        · exact absurd h ha0
                        · rw [HG.out, HG.out]; exact h p' hp1' hp2'
                      have HC : Hid (∀ W, Calls Tryz.prog 162 #[.int .u64 (G (a' - 1) : Int), .int .u64 (G p' : Int)] W fun e w' => e = .returned (.bool true) ∧ w' = W) := fun W => by rw [← hl]; exact HL.out _ _ W
                      clear hl
                      go_wp2_with fail
                      go_quiet (first | (go_at_call 162; refine Calls.quiet_of_same (HC.out _)))
                      go_wp2_with fail
                      go_meet
                      exact ⟨rfl, HI5.out.draws nq⟩
                  case rest =>
                    obtain ⟨rfl, HI6⟩ := hcut
                    clear HI5 HHk hcw HG
                    have HHk := Lib.hid (HI6.out.holds HH.out HBW.out)
                    have HC := Lib.hid (ptnU_any blk off len cap a' b' p' dq hsk.out wc HHk.out hp1' hp2' (by omega) hsz)
                    go_wp2_with (go_at_call 164; refine HC.out.mono ?_; rintro e w1 ⟨mid, ap, n, d4, rfl, hE, hw1⟩; have hm1 := hE.am; have hm2 := hE.mb; have HE := Lib.hid hE; have HW1 := Lib.hid hw1; clear hE hw1)
                    · have HI7 : Hid (PdqI a b d w blk off a' b' d4 w1) := HI6.out.turn HBW.out HE.out.perm (RowTo.of_put HW1.out)
                      have hs4 : d4.size = len := by rw [HI7.out.size, HLN.out]
                      have hsub := HI7.out.subs HE.out.self
                      have HC := Lib.hid (IH.out (mid - a') (by omega) a' mid lim' d4 w1 (Nat.le_refl _) hs4 (HI7.out.holds HH.out HBW.out) (Nat.lt_of_lt_of_le HBW.out HI7.out.row.size) hm1 (by omega) HI7.out.nd hsub.1 hlim')
                      clear hs4 hsub
                      refine HC.out.mono ?_
                      rintro e w2 ⟨rfl, d5, hp5, hs5, hr5⟩
                      have HI8 := Lib.hid (HI7.out.right HBW.out HE.out.self hp5 hs5 hr5)
                      clear hp5 hs5 hr5
                      go_wp2_with fail
                      go_roundw
                      case rel => exact ⟨mid + 1, b', lim', _, ap, d5, by go_num, rfl, rfl, rfl, rfl, hlim', HI8⟩
                      case measure => simp [intOf]; omega
                    · have HI7 : Hid (PdqI a b d w blk off a' b' d4 w1) := HI6.out.turn HBW.out HE.out.perm (RowTo.of_put HW1.out)
                      have hs4 : d4.size = len := by rw [HI7.out.size, HLN.out]
                      have hsub := HI7.out.subs HE.out.self
                      have hc0 := IH.out (b' - (mid + 1)) (by omega) (mid + 1) b' lim' d4 w1 (Nat.le_refl _) hs4 (HI7.out.holds HH.out HBW.out) (Nat.lt_of_lt_of_le HBW.out HI7.out.row.size) (by omega) (by omega) HI7.out.nd hsub.2 hlim'
                      rw [show ((mid + 1 : Nat) : Int) = (mid : Int) + 1 by omega] at hc0
                      have HC := Lib.hid hc0
                      clear hs4 hsub hc0
                      refine HC.out.mono ?_
                      rintro e w2 ⟨rfl, d5, hp5, hs5, hr5⟩
                      have HI8 := Lib.hid (HI7.out.left HBW.out HE.out.self hp5 hs5 hr5)
                      clear hp5 hs5 hr5
                      go_wp2_with fail
                      go_roundw
                      case rel => exact ⟨a', mid, lim', _, ap, d5, rfl, rfl, rfl, rfl, rfl, hlim', HI8⟩
                      case measure => simp [intOf]; omega
set_option maxRecDepth 100000 in
set_option maxHeartbeats 4000000 in
/-- slices.Sort at numbers of 64 bits, each once. -/
theorem sortU_any (blk off cap : Nat) (d : Array Nat) (w : World) (hH : Holds encN w blk off d) (hbw : blk < w.heap.size) (hnd : d.toList.Nodup) (hsz : d.size < 4611686018427387904) :
    Calls Tryz.prog 120 #[.slice (some ⟨blk, off, none⟩) d.size cap] w fun e w' => e = .returned (.tuple #[]) ∧ RowTo w w' blk off (d.toList.mergeSort (fun x y => decide (x ≤ y))).toArray := by
  have hc := fun w => Tryz.bits_Len (d.size : Int) w (by omega) (by omega)
  rw [Int.toNat_natCast] at hc
  have HC := Lib.hid hc
  have hL : Lib.bitLen d.size ≤ 64 := by
    by_cases h0 : d.size = 0
    · rw [h0]; decide
    · have := (bitLen_two (n := d.size) (by omega) hsz).2; omega
  have HS := Lib.hid (fun lim hl => pdqU_any blk off d.size cap hsz d.size 0 d.size lim d w (by omega) rfl hH hbw (Nat.zero_le _) (Nat.le_refl _) hnd (.inl rfl) hl)
  obtain ⟨L, hLd⟩ : ∃ L, L = Lib.bitLen d.size := ⟨_, rfl⟩
  rw [← hLd] at HC hL
  clear hc hH hbw hLd
  obtain ⟨n, hn⟩ : ∃ n, n = d.size := ⟨_, rfl⟩
  rw [← hn] at HC HS hsz ⊢
  have HN := Lib.hid hn
  clear hn
  go_enter Tryz.func120, Tryz.ntmps120
  go_wp2_with fail
  refine (HC.out _).mono ?_
  rintro e w1 ⟨rfl, rfl⟩
  go_wp2_with fail
  refine (HS.out L (by omega)).mono ?_
  rintro e w1 ⟨rfl, d', hp, hs, hr⟩
  have HP := Lib.hid hp
  have HSS := Lib.hid hs
  have HR := Lib.hid hr
  clear hp hs hr
  go_wp2_with fail
  go_end0
  refine ⟨rfl, ?_⟩
  have hp := HP.out
  have hs := HSS.out
  rw [HN.out] at hp hs
  have h1 := sorted_unique_holds (lt := ltN) swoN (fun x y h1 h2 => by simp [ltN] at h1 h2; omega) d d' hp hs
  have h2 : d' = (d.toList.mergeSort (fun x y => decide (x ≤ y))).toArray := by
    have e : (fun x y : Nat => !ltN y x) = fun x y => decide (x ≤ y) := by
      funext x y
      unfold ltN
      rw [Bool.eq_iff_iff]
      simp
    rw [← Array.toList_inj, h1, e]
  rw [← h2]
  exact HR.out
end Go.Proofs.YtfgkjofdgohacaaGreatDoor
namespace Go.Proofs.YtfgkjofdgohacaaGreatDoor
open Go Go.RowKit Go.Shelf
attribute [local go_sem] Oper.semAt_some
theorem ipush_V {F : Fence} {m : Nat} {w : World} {ops : Array Oper} {rest : List Oper} {o : Oper} {a : Act} {Q : Exit → Act → World → Prop} (hgd : o.guard = none) (s x : Operand) (ho : o.op = .call { callee := .builtin .append, args := #[s, x], argTypes := #[37, 37] })
    (base : Nat) (v : Value) (l : List Nat) (n : Nat) (hn : n = l.length) (hs : a.eval s = v) (hown : w.ownsRow base 41 1 v n (fl encV l)) (B c : Nat) (y : Nat) (hx : a.eval x = .slice (some ⟨B, 0, none⟩) 1 c) (hB : Blk w B (encV y).toArray 41) (hl : n < 4398046511104) (hbase : base ≤ w.heap.size)
    (h : ∀ g cap w', w'.ownsRow base 41 1 (.slice (some ⟨g, 0, none⟩) (n + 1) cap) (n + 1) (fl encV (l ++ [y])) → w.grownBy w' v.ownBlock → (v.ownBlock = some g ∨ g = w.heap.size) → g < w'.heap.size → wpListIn F m Tryz.prog ops Q rest (a.put o.dst (.slice (some ⟨g, 0, none⟩) (n + 1) cap)) w') : wpListIn F m Tryz.prog ops Q (o :: rest) a w := by
  obtain ⟨i0, hi, hz0, hz1, hz2⟩ := info_parts info_V
  refine wpListIn_plain hgd fun K hK' => ?_
  obtain ⟨g, cap, w', hrun, r1, r2, r3, r4⟩ := run_append_lies (P := Tryz.prog) w 37 o.type base 41 i0 _ 1 8 Tryz.underlying37 hi hz0 hz1 hz2 rfl (by decide) v n (fl encV l) hown ⟨B, 0, none⟩ 1 c (encV y) (by simp [encV]) (World.news_of_block (cs := (encV y).toArray) (t := 41) (fr := (0, 0)) hB) (by intro u hu; simp [encV] at hu; first | (subst hu; rfl) | (rcases hu with rfl | rfl <;> rfl)) (by omega) (by unfold maxLen; omega) (by omega) hbase _ rfl
  unfold Oper.wpIn
  refine ⟨?_, ?_⟩
  · simp [Oper.about, ho, resolve, Target.leads, Sem.run_pure]
  · rw [Oper.semAt_plain F _ _ (by rw [ho]; intro c hc'; cases hc')]
    simp [execOp, ho, resolve, invoke, builtin, hs, hx, hrun, Result.andThen]
    rw [← fl_snoc] at r1
    exact hK' _ _ (h g cap w' r1 r2 r3 r4)
/-- A row of cells stays where something that is no cells turns. -/
theorem owns_walk4 {W W' : World} {row : Option Nat} {base e k n : Nat} {v : Value} {xs : List Value} (h : W.ownsRow base e k v n xs) (hg : W.grownBy W' row) (hr : ∀ r, row = some r → ∃ o : Obj, W.heap[r]? = some o ∧ o.isCells = false) : W'.ownsRow base e k v n xs := by
  refine h.kept hg ?_
  rcases h.2 with ⟨rfl, _⟩ | ⟨g, cap, cur, rfl, _, hgb, _⟩
  · exact .inl rfl
  · refine .inr fun e' => ?_
    obtain ⟨o, ho, hw⟩ := hr g (by simpa [Value.ownBlock] using e'.symm)
    rw [hgb] at ho; cases ho; cases hw
theorem blk_walk4 {W W' : World} {row : Option Nat} {B : Nat} {cs : Array Value} {t : TypeId} (h : Blk W B cs t) (hg : W.grownBy W' row) (hr : ∀ r, row = some r → ∃ o : Obj, W.heap[r]? = some o ∧ o.isCells = false) : Blk W' B cs t :=
  h.grown hg (fun e' => by
    obtain ⟨o, ho, hw⟩ := hr B e'.symm
    unfold Blk at h
    rw [h] at ho; cases ho; cases hw)
theorem rd_walk4 {W W' : World} {row : Option Nat} {a : Option Addr} {cs : List Value} (h : Rd W a cs) (hg : W.grownBy W' row) (hr : ∀ r, row = some r → ∃ o : Obj, W.heap[r]? = some o ∧ o.isCells = false) : Rd W' a cs := by
  intro h0
  obtain ⟨b, off, e, hlt, hc⟩ := h h0
  refine ⟨b, off, e, Nat.lt_of_lt_of_le hlt hg.size, fun i hi => ?_⟩
  rw [← hc i hi]
  have hci := hc i hi
  simp only [World.cell?] at hci ⊢
  rw [hg.block b hlt (fun e' => ?_)]
  obtain ⟨o, ho, hw⟩ := hr b e'.symm
  rw [ho] at hci
  cases o <;> first | (cases hw; done) | (simp at hci)
/-- While numbers are collected: box Bs holds the slice of those that came. -/
def ColV (w0 : World) (Bs : Nat) (l : List Nat) (W : World) : Prop :=
  ∃ v, Blk W Bs #[v] 37 ∧ W.ownsRow Bs 41 1 v l.length (fl encV l) ∧ Below w0.heap.size w0 W
theorem owns_not_box {W : World} {base n B : Nat} {v u : Value} {xs : List Value} (h : W.ownsRow base 41 1 v n xs) (hB : Blk W B #[u] 37) : v.ownBlock ≠ some B := fun e => by
  rcases h.2 with ⟨rfl, _⟩ | ⟨g, cap, cur, rfl, _, hgb, _⟩
  · cases e
  · have : g = B := Option.some.inj e
    subst this
    unfold Blk at hB
    rw [hB] at hgb
    cases hgb
theorem ColV.push {w0 W w8 : World} {Bs g2 cap z : Nat} {l : List Nat} {o : Obj} {v : Value} (hBs : w0.heap.size = Bs) (h1 : Blk W Bs #[v] 37) (h2 : W.ownsRow Bs 41 1 v l.length (fl encV l)) (h3 : Below w0.heap.size w0 W)
    (h81 : w8.ownsRow Bs 41 1 (.slice (some ⟨g2, 0, none⟩) (l.length + 1) cap) (l.length + 1) (fl encV (l ++ [z]))) (h82 : (W.alloc o).grownBy w8 v.ownBlock) :
    KeepsOthers W (w8.setCell ⟨Bs, 0, none⟩ (.slice (some ⟨g2, 0, none⟩) (l.length + 1) cap)) ∧ (∀ B, B < w0.heap.size → (w8.setCell ⟨Bs, 0, none⟩ (.slice (some ⟨g2, 0, none⟩) (l.length + 1) cap)).heap[B]? = W.heap[B]?) ∧ ColV w0 Bs (l ++ [z]) (w8.setCell ⟨Bs, 0, none⟩ (.slice (some ⟨g2, 0, none⟩) (l.length + 1) cap)) := by
  have hne := owns_not_box h2 h1
  have hb8 : Blk w8 Bs #[v] 37 := (h1.alloc o).grown h82 fun e => hne e.symm
  have hne2 := owns_not_box h81 hb8
  have hsz := h3.size
  have hal := bl_alloc (Below.refl _ W) o
  refine ⟨?_, fun B hB => ?_, _, hb8.set 0 _, ?_, ?_⟩
  · refine ((KeepsOthers.alloc W _).trans (KeepsOthers.of_grownBy h82 fun j o' hj ho => ?_)).trans (KeepsOthers.setCell _ _ _)
    rcases (owns_below h2 hal).2 with ⟨rfl, _⟩ | ⟨g', cap', cur, rfl, _, hgb, _⟩
    · cases hj
    · have : g' = j := Option.some.inj hj
      subst this
      rw [hgb] at ho; cases ho; rfl
  · have k1 : B ≠ Bs := by omega
    refine (Below.heap_setCell w8 ⟨Bs, 0, none⟩ _ B k1).trans ((h82.block B (by rw [World.size_alloc]; omega) fun e => ?_).trans (Below.heap_alloc W o B (by omega)))
    have := (h2.lt B e.symm).1
    omega
  · have e : (l ++ [z]).length = l.length + 1 := by simp
    rw [e]
    exact ownsRow_setCell_other (a := ⟨Bs, 0, none⟩) h81 hne2 _
  · refine bl_set (bl_grown (bl_trans h3 hal) h82 (fun r e => ?_)) _ _ _ _ (by omega)
    have := (h2.lt r e).1
    omega
theorem ColV.own {w0 : World} {Bs B : Nat} (hBs : w0.heap.size = Bs) (hB : Bs ≤ B) : OwnFrom B (ColV w0 Bs) := by
  rintro l W W' row ⟨v, h1, h2, h3⟩ hg hr
  have hr2 : ∀ r, row = some r → ∃ o : Obj, W.heap[r]? = some o ∧ o.isCells = false := fun r e => (hr r e).2
  exact ⟨v, blk_walk4 h1 hg hr2, owns_walk4 h2 hg hr2, bl_grown h3 hg (fun r e => by have := (hr r e).1; omega)⟩
set_option maxRecDepth 100000 in
set_option maxHeartbeats 4000000 in
theorem appU_any (gf : Nat) (hen : Enters Tryz.prog gf) (lb : Array Value) (N : Nat) (S Sp : List Nat → Prop) (Kp : World → World → Prop) (w : World) (hN : N < 4398046511104)
    (hseq : SeqStopsK Fence.wide 9 Tryz.prog gf lb (fun x : Nat => #[.int .u64 (x : Int)]) Kp S Sp N w)
    (hKt : ∀ {A B C : World}, Kp A B → Kp B C → Kp A C) (hKb : ∀ (W : World) (l : Nat) (o o' : Obj), w.heap.size ≤ l → W.heap[l]? = some o → o.isCells = false → o.isWalk = false → Kp W (W.putObj l o'))
    (hKp : ∀ W W', KeepsOthers W W' → (∀ B, B < w.heap.size → W'.heap[B]? = W.heap[B]?) → Kp W W') :
    Calls Tryz.prog 93 #[.slice none 0 0, .func (.func gf) #[] lb] w fun e w' => ∃ v xs, e = .returned v ∧ S xs ∧ w'.ownsRow w.heap.size 41 1 v xs.length (fl encV xs) ∧ Below w.heap.size w w' := by
  have hb0 := bl_alloc (Below.refl _ w) (.cells #[.slice none 0 0] 37)
  have HB0 := Lib.hid (Blk.new w #[.slice none 0 0] 37)
  obtain ⟨Bs, hBs⟩ : ∃ x, x = w.heap.size := ⟨_, rfl⟩
  have HKT : Hid (∀ A B C : World, Kp A B → Kp B C → Kp A C) := fun A B C h k => hKt h k
  rw [← hBs] at HB0 hKb hKp ⊢
  have HBS := Lib.hid hBs
  have HBL := Lib.hid hb0
  have HSQ := Lib.hid hseq
  have HKB := Lib.hid hKb
  have HKP := Lib.hid hKp
  clear hb0 hseq hKt hKb hKp hBs
  refine (callsIn_wide (n := 10)).1 ?_
  refine callsIn_of_wp_marks Tryz.func93 rfl trivial ?_ rfl
  simp only [Tryz.ntmps93, List.size_toArray, List.length_cons, List.length_nil, Nat.reduceAdd, Nat.reduceSub, Array.replicate_succ, Array.replicate_zero, List.push_toArray, List.append_toArray, List.nil_append, List.cons_append]
  refine wpIn_wide.2 ?_
  go_wp2_with fail
  rw [← HBS.out]
  obtain ⟨w1, hw1⟩ : ∃ x, x = w.alloc (.cells #[.slice none 0 0] 37) := ⟨_, rfl⟩
  rw [← hw1] at HB0 HBL ⊢
  have hz1 : w1.heap.size = Bs + 1 := by rw [hw1, World.size_alloc, ← HBS.out]
  have HZ1 := Lib.hid hz1
  clear hw1 hz1
  refine (wpIn_wide (n := 10)).1 ?_
  refine wpIn_rangeFunc_ownG (α := Nat) rfl (by omega) (gf := gf) (lb := lb) rfl trivial hen HSQ.out (fun h k => HKT.out _ _ _ h k) (fun W l o o' hl h1 h2 h3 => HKB.out W l o o' (by have := HZ1.out; omega) h1 h2 h3) HBL.out (fun _ => rfl)
    (ColV w Bs) (fun _ _ _ => False) (ColV.own HBS.out.symm (by have := HZ1.out; omega)) (fun _ _ _ _ _ hs _ _ => hs) ⟨_, HB0.out, World.ownsRow_nil _ _ _ _, HBL.out⟩
    (fun x => { tmps := #[.slice none 0 0, .func (.func gf) #[] lb, .pointer (some ⟨Bs, 0, none⟩), undef, .slice none 0 0, .int .u64 (x : Int), .func (.func gf) #[] lb, .int .u64 (x : Int), undef, undef, undef, undef, undef], defers := [] }) ?assign ?body ?done ?stop
  case assign =>
    intro l x W' K hK
    gi_wp2
    exact hK
  case stop => rintro D c pre W _ _ h; exact h.elim
  case body =>
    rintro l pre x W' ⟨v, hBk, hT, hbw⟩ hk
    have c1 : W'.cell? ⟨Bs, 0, none⟩ = some v := hBk.cell 0
    have hbs : Bs ≤ W'.heap.size := Nat.le_of_lt hBk.lt
    have HT := Lib.hid hT
    have HBK := Lib.hid hBk
    have HBW := Lib.hid hbw
    clear hBk hT hbw
    gi_wp2_with (gi_at_builtin; refine ipush_V rfl (.tmp 8) (.tmp 10) rfl Bs v pre pre.length rfl rfl (HT.out.alloc _) _ _ x rfl (Blk.new _ _ _) (by omega) (by rw [World.size_alloc]; omega) ?_; intro g2 cap w8 h81 h82 h83 h84; have H81 := Lib.hid h81; have H82 := Lib.hid h82; have H84 := Lib.hid h84; have HB8 : Hid (Blk w8 Bs #[v] 37) := (HBK.out.alloc _).grown h82 (fun e => owns_not_box HT.out HBK.out e.symm); have c8 : w8.cell? ⟨Bs, 0, none⟩ = some v := HB8.out.cell 0; have f8 : w8.frozen? ⟨Bs, 0, none⟩ = false := HB8.out.free 0; clear h81 h82 h83 h84)
    have hp := ColV.push HBS.out.symm HBK.out HT.out HBW.out H81.out H82.out
    exact ⟨hp.1.from _, HKP.out _ _ hp.1 (fun B hB => hp.2.1 B (by rw [← HBS.out]; exact hB)), hp.2.2⟩
  case done =>
    rintro D xs W' hD hS ⟨v, h1, h2, h3⟩ hKD
    have c1 : W'.cell? ⟨Bs, 0, none⟩ = some v := h1.cell 0
    have HH2 := Lib.hid h2
    have HH3 := Lib.hid h3
    have HSS := Lib.hid hS
    have HKD := Lib.hid hKD
    clear h1 h2 h3 hS hKD
    simp only [Exit.inBlock, Exit.then]
    go_wp2_with fail
    refine leaves_all [D] _ (by simp) (fun D' hD' => by rw [List.mem_singleton.1 hD']; exact HKD.out) fun w' ht => ⟨_, results_tmp rfl _ _ _, ?_⟩
    refine ⟨v, xs, rfl, HSS.out, ht.owns (fun D' hD' => by rw [List.mem_singleton.1 hD']; exact HKD.out) HH2.out, ?_⟩
    have hb := ht.below HH3.out (fun D' hD' => by rw [List.mem_singleton.1 hD']; have := HZ1.out; have := HBS.out; omega)
    rw [← HBS.out] at hb
    exact hb
set_option maxRecDepth 100000 in
set_option maxHeartbeats 2000000 in
theorem colU_any (gf : Nat) (hen : Enters Tryz.prog gf) (lb : Array Value) (N : Nat) (S Sp : List Nat → Prop) (Kp : World → World → Prop) (w : World) (hN : N < 4398046511104)
    (hseq : SeqStopsK Fence.wide 9 Tryz.prog gf lb (fun x : Nat => #[.int .u64 (x : Int)]) Kp S Sp N w)
    (hKt : ∀ {A B C : World}, Kp A B → Kp B C → Kp A C) (hKb : ∀ (W : World) (l : Nat) (o o' : Obj), w.heap.size ≤ l → W.heap[l]? = some o → o.isCells = false → o.isWalk = false → Kp W (W.putObj l o'))
    (hKp : ∀ W W', KeepsOthers W W' → (∀ B, B < w.heap.size → W'.heap[B]? = W.heap[B]?) → Kp W W') :
    Calls Tryz.prog 64 #[.func (.func gf) #[] lb] w fun e w' => ∃ v xs, e = .returned v ∧ S xs ∧ w'.ownsRow w.heap.size 41 1 v xs.length (fl encV xs) ∧ Below w.heap.size w w' := by
  have HC := Lib.hid (appU_any gf hen lb N S Sp Kp w hN hseq hKt hKb hKp)
  clear hseq hKt hKb hKp
  go_enter Tryz.func64, Tryz.ntmps64
  go_wp2_with fail
  refine HC.out.mono ?_
  rintro e w2 ⟨v, xs, rfl, hs, h1, h2⟩
  have H1 := Lib.hid h1
  have H2 := Lib.hid h2
  have HSS := Lib.hid hs
  clear h1 h2 hs
  go_wp2_with fail
  go_ret
  exact ⟨v, xs, rfl, HSS.out, H1.out, H2.out⟩
end Go.Proofs.YtfgkjofdgohacaaGreatDoor
namespace Go.Proofs.YtfgkjofdgohacaaGreatDoor
open Go Go.RowKit Go.Shelf Go.Sort
theorem fl_V (l : List Nat) : fl encV l = l.map encN := by
  induction l with
  | nil => rfl
  | cons a l ih =>
    have : fl encV (a :: l) = encV a ++ fl encV l := by simp [fl]
    rw [this, ih]; rfl
theorem owns_putN {w : World} {base e cap g : Nat} {l : List Nat} (h : w.ownsRow base e 1 (.slice (some ⟨g, 0, none⟩) l.length cap) l.length (fl encV l)) (m : List Nat) (hm : m.length = l.length) :
    (putRow encN w g 0 m.toArray).ownsRow base e 1 (.slice (some ⟨g, 0, none⟩) l.length cap) l.length (fl encV m) := by
  rcases h.2 with ⟨hv, _⟩ | ⟨g', cap', cur, hv, hg, hh, hn, hmx, hcs, _⟩
  · cases hv
  · cases hv
    refine ⟨by rw [fl_V, List.length_map, hm]; omega, .inr ⟨g, cap, putCells encN 0 m.toArray cur, rfl, hg, by simp [putRow, mapBlock, Array.getElem?_modify, hh, onCells], hn, hmx, by simp [putCells, hcs], ?_⟩⟩
    rw [fl_V]
    apply List.ext_getElem?
    intro i
    by_cases hi : i < m.length
    · have h1 : i < cur.size := by omega
      simp [putCells, hi, h1, ← hm]
    · rw [List.getElem?_eq_none (by rw [List.length_take]; omega), List.getElem?_eq_none (by rw [List.length_map]; omega)]
theorem holdsN {w : World} {base e cap g : Nat} {l : List Nat} (h : w.ownsRow base e 1 (.slice (some ⟨g, 0, none⟩) l.length cap) l.length (fl encV l)) : Holds encN w g 0 l.toArray := by
  rcases h.2 with ⟨hv, _⟩ | ⟨g', cap', cur, hv, hg, hh, hn, hmx, hcs, ht⟩
  · cases hv
  · cases hv
    intro j hj
    have hj : j < l.length := by simpa using hj
    have h1 : j < cur.size := by omega
    have h2 : cur[j]? = some (encN l.toArray[j]!) := by
      have := congrArg (fun l => l[j]?) ht
      rw [fl_V] at this
      simp [h1, hj] at this
      simp [h1, hj, this]
    refine ⟨?_, ?_⟩
    · simp [World.cell?, hh, h2]
    · simp [World.frozen?, hh]
theorem bl_growN {a w : World} (h : Below a.heap.size a w) (os : Array Obj) : Below a.heap.size a (grow w os) :=
  ⟨h.os, h.tape, h.output, by have := h.size; simp [grow]; omega, fun k hk => by
    rw [← h.block k hk]
    have := h.size
    simp [grow, Array.getElem?_append_left (show k < w.heap.size by omega)]⟩
theorem RowTo.below {a w w' : World} {g : Nat} {d : Array Nat} (h : RowTo w w' g 0 d) (ha : Below a.heap.size a w) (hg : a.heap.size ≤ g) : Below a.heap.size a w' := by
  obtain ⟨m, os, rfl⟩ := h
  have h1 : Go.RowKit.Below a.heap.size a (putRow encN (Sort.ahead w m) g 0 d) := by
    refine ⟨ha.os, ha.tape, ha.output, ?_, fun k hk => ?_⟩
    · rw [size_putRow]; exact ha.size
    · rw [← ha.block k hk]
      simp only [putRow, mapBlock, Array.getElem?_modify]
      rw [if_neg (show ¬ g = k by omega)]
      rfl
  exact bl_growN h1 os
theorem RowTo.owns {w w' : World} {base e cap g : Nat} {l m : List Nat} (h : RowTo w w' g 0 m.toArray) (ho : w.ownsRow base e 1 (.slice (some ⟨g, 0, none⟩) l.length cap) l.length (fl encV l)) (hm : m.length = l.length) : w'.ownsRow base e 1 (.slice (some ⟨g, 0, none⟩) l.length cap) l.length (fl encV m) := by
  obtain ⟨q, os, rfl⟩ := h
  have ho2 : (Sort.ahead w q).ownsRow base e 1 (.slice (some ⟨g, 0, none⟩) l.length cap) l.length (fl encV l) := ho
  exact owns_below (owns_putN ho2 m hm) (bl_growN (Below.refl _ _) os)
set_option maxRecDepth 100000 in
set_option maxHeartbeats 2000000 in
theorem insU_nil (w : World) : Calls Tryz.prog 156 #[.slice none 0 0, .int .i64 0, .int .i64 0] w fun e w' => e = .returned (.tuple #[]) ∧ w' = w := by
  go_enter Tryz.func156, Tryz.ntmps156
  go_wp2_with fail
  go_loopw [6, 7] (fun x _ wr => x = .int .i64 1 ∧ wr = w) (fun _ _ _ => 0)
  case atStart => exact ⟨rfl, rfl⟩
  case round =>
    obtain ⟨rfl, rfl⟩ := hrel
    go_wp2_with fail
    go_end0
    exact ⟨rfl, rfl⟩
set_option maxRecDepth 100000 in
set_option maxHeartbeats 2000000 in
theorem pdqU_nil (limit : Nat) (w : World) : Calls Tryz.prog 134 #[.slice none 0 0, .int .i64 0, .int .i64 0, .int .i64 limit] w fun e w' => e = .returned (.tuple #[]) ∧ w' = w := by
  have HC := Lib.hid (fun w => insU_nil w)
  go_enter Tryz.func134, Tryz.ntmps134
  go_wp2_with fail
  go_loopw [1, 2, 3, 8, 9, 10, 11, 12, 13, 14, 15, 16, 17, 18] (fun x1 x2 x3 _ _ _ _ _ _ _ _ _ _ _ wr => x1 = .int .i64 0 ∧ x2 = .int .i64 0 ∧ x3 = .int .i64 limit ∧ wr = w) (fun _ _ _ _ _ _ _ _ _ _ _ _ _ _ _ => 0)
  case atStart => exact ⟨rfl, rfl, rfl, rfl⟩
  case round =>
    obtain ⟨rfl, rfl, rfl, rfl⟩ := hrel
    go_wp2_with (go_at_call 156; refine (HC.out _).mono ?_; rintro e w1 ⟨rfl, rfl⟩)
    refine bodyPost_ret (results_none rfl _ _ _) rfl ?_
    exact ⟨rfl, rfl⟩
set_option maxRecDepth 100000 in
set_option maxHeartbeats 2000000 in
theorem sortU_nil (w : World) : Calls Tryz.prog 120 #[.slice none 0 0] w fun e w' => e = .returned (.tuple #[]) ∧ w' = w := by
  have hc := fun w => Tryz.bits_Len 0 w (by omega) (by omega)
  have HC := Lib.hid hc
  have HS := Lib.hid (fun l w => pdqU_nil l w)
  obtain ⟨L, hL⟩ : ∃ L, L = Lib.bitLen (0 : Int).toNat := ⟨_, rfl⟩
  rw [← hL] at HC
  clear hL hc
  go_enter Tryz.func120, Tryz.ntmps120
  go_wp2_with fail
  refine (HC.out _).mono ?_
  rintro e w1 ⟨rfl, rfl⟩
  go_wp2_with fail
  refine (HS.out L _).mono ?_
  rintro e w1 ⟨rfl, rfl⟩
  go_wp2_with fail
  go_end0
  exact ⟨rfl, rfl⟩
theorem sortRowU_any {w : World} {base n : Nat} {v : Value} (l : List Nat) (hn : n = l.length) (h : w.ownsRow base 41 1 v n (fl encV l)) (hnd : l.Nodup) (hsz : n < 1048576) :
    Calls Tryz.prog 120 #[v] w fun e w' => e = .returned (.tuple #[]) ∧ w'.ownsRow base 41 1 v n (fl encV (sdU l)) ∧ ∀ a : World, Below a.heap.size a w → a.heap.size ≤ base → Below a.heap.size a w' := by
  subst hn
  rcases h.2 with ⟨rfl, hnil⟩ | ⟨g, cap, cur, rfl, hg, hh, _⟩
  · have h0 : l.length = 0 := hnil
    have e : l = [] := List.eq_nil_of_length_eq_zero h0
    subst e
    refine (sortU_nil w).mono ?_
    rintro e w' ⟨he, rfl⟩
    exact ⟨he, h, fun a ha _ => ha⟩
  · have hc := sortU_any g 0 cap l.toArray w (holdsN h) (h.lt g rfl).2 (by simpa using hnd) (by simp; omega)
    rw [show l.toArray.size = l.length by simp] at hc
    refine hc.mono ?_
    rintro e w' ⟨he, hr⟩
    rw [show l.toArray.toList = l by simp, sd_sort hnd] at hr
    exact ⟨he, hr.owns h (sdU_len hnd), fun a ha hb => hr.below ha (by omega)⟩
set_option maxRecDepth 100000 in
set_option maxHeartbeats 2000000 in
theorem sortedU_any (gf : Nat) (hen : Enters Tryz.prog gf) (lb : Array Value) (N : Nat) (S : List Nat) (Sp : List Nat → Prop) (Kp : World → World → Prop) (w : World) (hN : S.length < 1048576) (hN2 : N < 4398046511104) (hnd : S.Nodup)
    (hseq : SeqStopsK Fence.wide 9 Tryz.prog gf lb (fun x : Nat => #[.int .u64 (x : Int)]) Kp (fun xs => xs.Perm S) Sp N w)
    (hKt : ∀ {A B C : World}, Kp A B → Kp B C → Kp A C) (hKb : ∀ (W : World) (l : Nat) (o o' : Obj), w.heap.size ≤ l → W.heap[l]? = some o → o.isCells = false → o.isWalk = false → Kp W (W.putObj l o'))
    (hKp : ∀ W W', KeepsOthers W W' → (∀ B, B < w.heap.size → W'.heap[B]? = W.heap[B]?) → Kp W W') :
    Calls Tryz.prog 95 #[.func (.func gf) #[] lb] w fun e w' => ∃ v, e = .returned v ∧ w'.ownsRow w.heap.size 41 1 v S.length (fl encV (sdU S)) ∧ Below w.heap.size w w' := by
  have HC := Lib.hid (colU_any gf hen lb N (fun xs => xs.Perm S) Sp Kp w hN2 hseq hKt hKb hKp)
  clear hseq hKt hKb hKp
  go_enter Tryz.func95, Tryz.ntmps95
  go_wp2_with fail
  refine HC.out.mono ?_
  rintro e w2 ⟨v, xs, rfl, hs, h1, h2⟩
  have e1 : xs.length = S.length := hs.length_eq
  have e2 : sdU xs = sdU S := sdU_congr fun x => hs.mem_iff
  rw [e1] at h1
  have HS := Lib.hid (sortRowU_any xs e1.symm h1 (hs.nodup_iff.2 hnd) hN)
  rw [e2] at HS
  have H2 := Lib.hid h2
  clear h1 h2 hs e1 e2
  go_wp2_with (go_at_call 120; refine HS.out.mono ?_; rintro e w3 ⟨rfl, h3, h4⟩; have H3 := Lib.hid h3; have H4 := Lib.hid h4; clear h3 h4)
  go_ret
  exact ⟨v, rfl, H3.out, H4.out w H2.out (Nat.le_refl _)⟩
end Go.Proofs.YtfgkjofdgohacaaGreatDoor
namespace Go.Proofs.YtfgkjofdgohacaaGreatDoor
open Go Go.RowKit Go.Shelf Go.Maps
/-- The cells of some blocks lie as they lay. -/
def KpC (Bs : Nat → Prop) (W W' : World) : Prop := ∀ (B : Nat) (cs : Array Value) (t : TypeId) (fr : Nat × Nat), Bs B → W.heap[B]? = some (.cells cs t fr) → W'.heap[B]? = some (.cells cs t fr)
theorem KpC.trans {Bs : Nat → Prop} {X Y Z : World} (h : KpC Bs X Y) (k : KpC Bs Y Z) : KpC Bs X Z := fun B cs t fr hB hx => k B cs t fr hB (h B cs t fr hB hx)
theorem kpC_put {Bs : Nat → Prop} (W : World) (l : Nat) (o o' : Obj) (h : W.heap[l]? = some o) (hc : o.isCells = false) : KpC Bs W (W.putObj l o') := by
  intro B cs t fr _ hB
  have hg := grownBy_putObj' W l o'
  refine (hg.block B (Array.getElem?_eq_some_iff.1 hB).1 (fun e => ?_)).trans hB
  have := Option.some.inj e
  subst this
  rw [h] at hB
  cases hB
  cases hc
theorem KpC.rd {Bs : Nat → Prop} {W W' : World} {a : Option Addr} {cs : List Value} (h : KpC Bs W W') (hz : W.heap.size ≤ W'.heap.size) (hR : Rd W a cs) (hB : ∀ b o p, a = some ⟨b, o, p⟩ → Bs b) : Rd W' a cs := by
  intro h0
  obtain ⟨b, off, e, hlt, hc⟩ := hR h0
  refine ⟨b, off, e, Nat.lt_of_lt_of_le hlt hz, fun i hi => ?_⟩
  have hci := hc i hi
  rw [← hci]
  simp only [World.cell?] at hci ⊢
  obtain ⟨o, ho⟩ : ∃ o, W.heap[b]? = some o := ⟨_, Array.getElem?_eq_getElem hlt⟩
  cases o with
  | cells cs t fr => rw [h b cs t fr (hB b off none e) ho, ho]
  | _ => rw [ho] at hci; simp at hci
set_option maxHeartbeats 1000000 in
theorem valsU_any (a : Option Addr) (n c : Nat) (w : World) : Calls Tryz.prog 94 #[.slice a n c] w fun e w' => e = .returned (.func (.func 119) #[] #[.pointer (some ⟨w.heap.size, 0, none⟩)]) ∧ w' = w.alloc (.cells #[.slice a n c] 37) := by
  go_enter Tryz.func94, Tryz.ntmps94
  go_wp2_with fail
  go_ret
  exact ⟨rfl, rfl⟩
/-- The blocks that the iterator reads. -/
def BsV (X : Nat) (a : Option Addr) (B : Nat) : Prop := B = X ∨ ∃ o p, a = some ⟨B, o, p⟩
set_option maxRecDepth 100000 in
set_option maxHeartbeats 2000000 in
theorem valsU_stops (m X n c : Nat) (a : Option Addr) (l : List Nat) (w : World) (hm : 1 ≤ m) (hn : l.length = n) (hN : n ≤ 1152921504606846976) (hX : Blk w X #[.slice a n c] 37) (hR : Rd w a (fl encV l)) :
    SeqStopsK Fence.wide m Tryz.prog 119 #[.pointer (some ⟨X, 0, none⟩)] (fun x : Nat => #[.int .u64 (x : Int)]) (fun W W' => KpC (BsV X a) W W' ∧ W.heap.size ≤ W'.heap.size) (fun xs => xs = l) (fun pre => ∃ k, k < n ∧ pre = l.take (k + 1)) n w := fun q J Jx W hW hJ hJx hY h0 => by
  have HN := Lib.hid hn
  have HRW := Lib.hid (hR.bl hW)
  have c0 : W.cell? ⟨X, 0, none⟩ = some (.slice a n c) := (hX.below hW).cell 0
  have HY := Lib.hid hY
  have H0 := Lib.hid h0
  clear hW hJ hJx hY h0 hX hR hn
  refine callsIn_of_wp Tryz.func119 rfl trivial ?_ rfl
  simp only [Tryz.ntmps119, List.size_toArray, List.length_cons, List.length_nil, Nat.reduceAdd, Nat.reduceSub, Array.replicate_succ, Array.replicate_zero, List.push_toArray, List.append_toArray, List.nil_append, List.cons_append]
  gi_wp2
  gi_loopw [7, 4] (fun x _ wx => ∃ i : Nat, i ≤ n ∧ x = .int .i64 i ∧ Hid (Rd wx a (fl encV l)) ∧ Hid (J (l.take i) wx)) (fun x _ _ => n - (intOf x).toNat)
  case atStart => exact ⟨0, by omega, rfl, HRW, H0⟩
  case round =>
    clear HRW H0 c0
    obtain ⟨i, hi, rfl, hRd, hJ⟩ := hrel
    by_cases hlt : i < n
    · obtain ⟨b, o, e, _, hc⟩ := rdV hRd.out (by rw [HN.out]; omega)
      have HE := Lib.hid e
      have c1 := hc i (by rw [HN.out]; exact hlt)
      have HTK := Lib.hid (take_snocV (l := l) (k := i) (by rw [HN.out]; exact hlt))
      obtain ⟨z, hz⟩ : ∃ z, z = vA l i := ⟨_, rfl⟩
      rw [← hz] at c1 HTK
      obtain ⟨fn, tmps, assign, body, hy, hR2⟩ := HY.out (l.take i) z wr hJ.out (by rw [List.length_take, HN.out]; omega)
      have HR2 := Lib.hid hR2
      subst e
      clear hc hz hR2
      gi_wp2
      refine HR2.out.mono ?_
      rintro e W3 (⟨rfl, hJ3, hk3⟩ | ⟨rfl, hJx3⟩)
      · have HR3 : Hid (Rd W3 (some ⟨b, o, none⟩) (fl encV l)) := hk3.1.rd hk3.2 hRd.out (fun b' o' p e' => by cases e'; exact .inr ⟨_, _, rfl⟩)
        have HJ3 : Hid (J (l.take (i + 1)) W3) := by show J _ _; rw [HTK.out]; exact hJ3
        clear hJ3 hk3 hRd hJ
        gi_wp2
        try go_wp2_with fail
        go_roundw
        case rel => exact ⟨i + 1, by omega, by go_num, HR3, HJ3⟩
        case measure => simp [intOf]; omega
      · have HJx3 : Hid (Jx (l.take (i + 1)) W3) := by show Jx _ _; rw [HTK.out]; exact hJx3
        clear hJx3
        gi_wp2
        refine bodyPost_ret (results_none rfl _ _ _) rfl ?_
        exact ⟨⟨_, rfl⟩, .inr ⟨_, ⟨i, hlt, rfl⟩, HJx3.out⟩⟩
    · obtain rfl : i = n := by omega
      have HJ2 : Hid (J l wr) := by
        have h := hJ.out
        rw [List.take_of_length_le (by rw [HN.out]; exact Nat.le_refl _)] at h
        exact h
      clear hJ
      gi_wp2
      go_end0
      exact ⟨⟨_, rfl⟩, .inl ⟨l, rfl, HJ2.out⟩⟩
set_option maxRecDepth 100000 in
set_option maxHeartbeats 2000000 in
theorem vals64_stops (m X n c : Nat) (a : Option Addr) (l : List Nat) (w : World) (hF : ∀ i, i < n → vA l i < 18446744073709551616) (hm : 1 ≤ m) (hn : l.length = n) (hN : n ≤ 1152921504606846976) (hX : Blk w X #[.slice a n c] 37) (hR : Rd w a (fl encV l)) :
    SeqStopsK Fence.wide m Tryz.prog 119 #[.pointer (some ⟨X, 0, none⟩)] (fun x : U64 => #[.int .u64 (x.val : Int)]) (fun W W' => KpC (BsV X a) W W' ∧ W.heap.size ≤ W'.heap.size) (fun xs => xs.map Fin.val = l) (fun pre => ∃ k, k < n ∧ pre.map Fin.val = l.take (k + 1)) n w := fun q J Jx W hW hJ hJx hY h0 => by
  have HN := Lib.hid hn
  have HF := Lib.hid hF
  clear hF
  have HRW := Lib.hid (hR.bl hW)
  have c0 : W.cell? ⟨X, 0, none⟩ = some (.slice a n c) := (hX.below hW).cell 0
  have HY := Lib.hid hY
  have H0 := Lib.hid h0
  clear hW hJ hJx hY h0 hX hR hn
  refine callsIn_of_wp Tryz.func119 rfl trivial ?_ rfl
  simp only [Tryz.ntmps119, List.size_toArray, List.length_cons, List.length_nil, Nat.reduceAdd, Nat.reduceSub, Array.replicate_succ, Array.replicate_zero, List.push_toArray, List.append_toArray, List.nil_append, List.cons_append]
  gi_wp2
  gi_loopw [7, 4] (fun x _ wx => ∃ i : Nat, i ≤ n ∧ x = .int .i64 i ∧ Hid (Rd wx a (fl encV l)) ∧ ∃ pre, Hid (pre.map Fin.val = l.take i) ∧ Hid (J pre wx)) (fun x _ _ => n - (intOf x).toNat)
  case atStart => exact ⟨0, by omega, rfl, HRW, [], rfl, H0⟩
  case round =>
    clear HRW H0 c0
    obtain ⟨i, hi, rfl, hRd, pre, hpre, hJ⟩ := hrel
    by_cases hlt : i < n
    · obtain ⟨b, o, e, _, hc⟩ := rdV hRd.out (by rw [HN.out]; omega)
      have HE := Lib.hid e
      have c1 := hc i (by rw [HN.out]; exact hlt)
      have HTK := Lib.hid (take_snocV (l := l) (k := i) (by rw [HN.out]; exact hlt))
      obtain ⟨z, hz⟩ : ∃ z, z = vA l i := ⟨_, rfl⟩
      rw [← hz] at c1 HTK
      have hzl : z < 18446744073709551616 := by rw [hz]; exact HF.out i hlt
      obtain ⟨fn, tmps, assign, body, hy, hR2⟩ := HY.out pre ⟨z, hzl⟩ wr hJ.out (by have h := congrArg List.length hpre.out; rw [List.length_map, List.length_take, HN.out] at h; omega)
      have HR2 := Lib.hid hR2
      subst e
      clear hc hz hR2
      gi_wp2
      refine HR2.out.mono ?_
      rintro e W3 (⟨rfl, hJ3, hk3⟩ | ⟨rfl, hJx3⟩)
      · have HR3 : Hid (Rd W3 (some ⟨b, o, none⟩) (fl encV l)) := hk3.1.rd hk3.2 hRd.out (fun b' o' p e' => by cases e'; exact .inr ⟨_, _, rfl⟩)
        have HJ3 := Lib.hid hJ3
        have HP3 : Hid ((pre ++ [(⟨z, hzl⟩ : U64)]).map Fin.val = l.take (i + 1)) := by show _ = _; rw [HTK.out, List.map_append, hpre.out]; rfl
        clear hJ3 hk3 hRd hJ
        gi_wp2
        try go_wp2_with fail
        go_roundw
        case rel => exact ⟨i + 1, by omega, by go_num, HR3, _, HP3, HJ3⟩
        case measure => simp [intOf]; omega
      · have HJx3 := Lib.hid hJx3
        have HP3 : Hid ((pre ++ [(⟨z, hzl⟩ : U64)]).map Fin.val = l.take (i + 1)) := by show _ = _; rw [HTK.out, List.map_append, hpre.out]; rfl
        clear hJx3
        gi_wp2
        refine bodyPost_ret (results_none rfl _ _ _) rfl ?_
        exact ⟨⟨_, rfl⟩, .inr ⟨_, ⟨i, hlt, HP3.out⟩, HJx3.out⟩⟩
    · obtain rfl : i = n := by omega
      have HP2 : Hid (pre.map Fin.val = l) := by
        have h := hpre.out
        rw [List.take_of_length_le (by rw [HN.out]; exact Nat.le_refl _)] at h
        exact h
      have HJ2 := Lib.hid hJ.out
      clear hJ
      gi_wp2
      go_end0
      exact ⟨⟨_, rfl⟩, .inl ⟨pre, HP2.out, HJ2.out⟩⟩
/-- What is owned is a slice. -/
theorem owns_sl {w : World} {base e k n : Nat} {v : Value} {xs : List Value} (h : w.ownsRow base e k v n xs) : ∃ a c, v = .slice a n c := by
  rcases h.2 with ⟨rfl, h0⟩ | ⟨g, cap, cur, rfl, _⟩
  · exact ⟨none, 0, by rw [h0]⟩
  · exact ⟨_, _, rfl⟩
theorem owns_base4 {w : World} {base base' e k n : Nat} {v : Value} {xs : List Value} (h : w.ownsRow base e k v n xs) (hb : base' ≤ base) : w.ownsRow base' e k v n xs := by
  obtain ⟨h1, h2 | ⟨g, cap, cur, h3, h4, h5⟩⟩ := h
  · exact ⟨h1, .inl h2⟩
  · exact ⟨h1, .inr ⟨g, cap, cur, h3, by omega, h5⟩⟩
/-- What all leaves: an iterator over the numbers in increasing order. -/
def AllPost (S : List Nat) (w : World) (e : Ending) (w' : World) : Prop :=
  ∃ X a c, e = .returned (.func (.func 119) #[] #[.pointer (some ⟨X, 0, none⟩)]) ∧ w.heap.size ≤ X ∧ Blk w' X #[.slice a S.length c] 37 ∧ w'.ownsRow w.heap.size 41 1 (.slice a S.length c) S.length (fl encV (sdU S)) ∧ Below w.heap.size w w'
set_option maxRecDepth 100000 in
set_option maxHeartbeats 2000000 in
theorem allU_any (b n : Nat) (S : List Nat) (w : World) (h : MU w b n S) (hS : S.length < 1048576) : Calls Tryz.prog 65 #[.map (some b)] w (AllPost S w) := by
  have HM := Lib.hid h
  have hb1 := bl_alloc (Below.refl _ w) (.cells #[.map (some b)] 67)
  have HC : Hid (Calls Tryz.prog 95 #[.func (.func 121) #[] #[.pointer (some ⟨w.heap.size, 0, none⟩)]] (w.alloc (.cells #[.map (some b)] 67)) fun e w' => ∃ v, e = .returned v ∧ w'.ownsRow (w.heap.size + 1) 41 1 v S.length (fl encV (sdU S)) ∧ Below (w.heap.size + 1) (w.alloc (.cells #[.map (some b)] 67)) w') := by
    have hs := keysU_stops 9 w.heap.size b n S (w.alloc (.cells #[.map (some b)] 67)) (by omega) (by simp) ((Blk.new w #[.map (some b)] 67).cell 0) (h.alloc _)
    have hc := sortedU_any 121 (enters_of Tryz.func121 (by kernel_rfl) rfl) _ _ S _ KeepsWalks _ hS (by omega) h.nd hs KeepsWalks.trans
      (fun W l o o' _ hl _ hw => ⟨by simp [World.putObj], fun k o2 hk ho2 => by
        by_cases e : k = l
        · subst e; rw [hl] at hk; cases hk; rw [hw] at ho2; cases ho2
        · exact (World.putObj_heap_other (fun e2 => e e2)).trans hk⟩)
      (fun W W' hk _ => ⟨hk.size, fun k o hk1 ho => hk.same k o hk1 (by cases o <;> first | rfl | cases ho)⟩)
    rw [World.size_alloc] at hc
    exact hc
  have HB1 := Lib.hid hb1
  have HK := Lib.hid (fun w => keysU_any b w)
  clear h hb1
  go_enter Tryz.func65, Tryz.ntmps65
  go_wp2_with (go_at_call 96; refine (HK.out _).mono ?_; rintro e w1 ⟨rfl, rfl⟩)
  refine HC.out.mono ?_
  rintro e w2 ⟨v, rfl, h1, h2⟩
  obtain ⟨a, c, rfl⟩ := owns_sl h1
  have HB2 : Hid (Below w.heap.size w w2) := bl_trans HB1.out (by rw [World.size_alloc]; exact h2)
  have H1 := Lib.hid h1
  clear h1 h2
  go_wp2_with (go_at_call 94; refine (valsU_any _ _ _ _).mono ?_; rintro e w3 ⟨rfl, rfl⟩)
  go_ret
  refine ⟨w2.heap.size, a, c, rfl, HB2.out.size, Blk.new _ _ _, ?_, bl_alloc HB2.out _⟩
  have h1 := H1.out.alloc (.cells #[.slice a S.length c] 37)
  exact owns_base4 h1 (by omega)
end Go.Proofs.YtfgkjofdgohacaaGreatDoor
namespace Go.Proofs.YtfgkjofdgohacaaGreatDoor
open Go.RowKit Go.Shelf
/-- Compatible sets. -/
def fitB (x y : Nat) : Bool := decide (x &&& y = 0) || decide (x &&& y = x) || decide (x &&& y = y)
theorem in_bits {x k : Nat} (hx : x < 18446744073709551616) : bits .and .u64 ((x : Int) / 2 ^ k) 1 = ((x / 2 ^ k % 2 : Nat) : Int) := by
  have e : ((x : Int) / 2 ^ k) = ((x / 2 ^ k : Nat) : Int) := by simp
  rw [e, show (1 : Int) = ((1 : Nat) : Int) from rfl, bits_and (Nat.lt_of_le_of_lt (Nat.div_le_self _ _) hx) (by omega), Nat.and_one_is_mod]
/-- A set is wide if it has a language from L to 63. -/
theorem wide_bit {x L : Nat} (hx : x < 18446744073709551616) : wide L x = false ↔ ∀ j, L ≤ j → j < 64 → x.testBit j = false := by
  unfold wide
  simp only [Bool.not_eq_false', decide_eq_true_eq]
  constructor
  · intro h j h1 _
    exact Nat.testBit_lt_two_pow (Nat.lt_of_lt_of_le h (Nat.pow_le_pow_right (n := 2) (by omega) h1))
  · intro h
    refine Nat.lt_pow_two_of_testBit x fun j hj => ?_
    by_cases h64 : j < 64
    · exact h j hj h64
    · exact Nat.testBit_lt_two_pow (Nat.lt_of_lt_of_le hx (Nat.pow_le_pow_right (n := 2) (by omega) (show 64 ≤ j by omega)))
theorem any_take {l : List Nat} {p : Nat → Bool} {k : Nat} (h : l.length ≤ k) (hn : NoneBefore p l k) : l.any p = false := hn.any h
theorem any_at {l : List Nat} {p : Nat → Bool} {k : Nat} (h : k < l.length) (hp : p (vA l k) = true) : l.any p = true := by
  rw [List.any_eq_true]
  exact ⟨l[k], List.getElem_mem h, by rw [← vA_get h]; exact hp⟩
end Go.Proofs.YtfgkjofdgohacaaGreatDoor
namespace Go.Proofs.YtfgkjofdgohacaaGreatDoor
open Go Go.RowKit Go.Shelf
theorem bit_of_ne {x : Nat} (h : x ≠ 0) : ∃ k, x.testBit k = true := by
  refine Classical.byContradiction fun hn => h ?_
  apply Nat.eq_of_testBit_eq
  intro k
  rw [Nat.zero_testBit]
  cases hb : x.testBit k with
  | false => rfl
  | true => exact absurd ⟨k, hb⟩ hn
theorem pth_root (t : List Nd) (n v : Nat) : 0 ∈ pthF t n v := by
  obtain ⟨h1, h2⟩ := pthF_pos t n v
  rw [vA_get h1] at h2
  rw [← h2]; exact List.getElem_mem h1
theorem tok_par {t : List Nd} {n : Nat} (hn : t.length = n) (hok : TreeOk t) : ∀ v, 0 < v → v < n → 0 ≤ nP t v ∧ nP t v < v := fun v h1 h2 => tree_par hok v h1 (by rw [hn]; exact h2)
theorem tok_root {t : List Nd} (hok : TreeOk t) : nP t 0 < 0 := (hok.2.2 0 (by have := hok.1; omega)).1
theorem tok_lv {t : List Nd} {n : Nat} (hn : t.length = n) (hok : TreeOk t) : lvT t = lvsL t n := by unfold lvT; rw [if_pos (chkE_good hok), hn]
theorem tok_bit {t : List Nd} {n k v : Nat} (hn : t.length = n) (hok : TreeOk t) (hk : k < (lvT t).length) (hv : v < n) : (cl t v).testBit k = true ↔ v ∈ pthF t n (vA (lvT t) k) := by
  rw [tok_lv hn hok] at hk ⊢
  exact cl_bit hn (tok_par hn hok) (tok_root hok) hk hv
theorem tok_leaf {t : List Nd} {n k : Nat} (hn : t.length = n) (hok : TreeOk t) (hk : k < (lvT t).length) : vA (lvT t) k < n ∧ leafB t (vA (lvT t) k) = true := by
  rw [tok_lv hn hok] at hk ⊢
  exact ⟨(lvs_at t n k hk).1, (lvs_at t n k hk).2.1⟩
theorem tok_lt {t : List Nd} {n v : Nat} (hn : t.length = n) (hok : TreeOk t) (hv : v < n) : cl t v < 2 ^ (lvT t).length := by
  rw [tok_lv hn hok]
  exact cl_lt (n := (lvsL t n).length) (by rw [hn]; exact Nat.le_refl _) v (by rw [hn]; exact hv)
theorem bit_lt {x k m : Nat} (hx : x < 2 ^ m) (h : x.testBit k = true) : k < m := by
  rcases Nat.lt_or_ge k m with q | q
  · exact q
  · have hp : 2 ^ m ≤ 2 ^ k := Nat.pow_le_pow_right (by omega) q
    rw [Nat.testBit_lt_two_pow (by omega)] at h; cases h
/-- What lies below has fewer leaves. -/
theorem cl_sub {t : List Nd} {n u v : Nat} (hn : t.length = n) (hok : TreeOk t) (hv : v < n) (h : u ∈ pthF t n v) : cl t u &&& cl t v = cl t v := by
  have hP := tok_par hn hok
  have hu : u < n := Nat.lt_of_le_of_lt (pth_lt hP v v (Nat.le_refl _) hv u h) hv
  apply Nat.eq_of_testBit_eq
  intro k
  rw [Nat.testBit_and]
  cases hb : (cl t v).testBit k with
  | false => simp
  | true =>
    have hk := bit_lt (tok_lt hn hok hv) hb
    have h1 := (tok_bit hn hok hk hv).1 hb
    have h2 := (pth_prefix hP _ _ (Nat.le_refl _) (tok_leaf hn hok hk).1 h1).subset h
    rw [(tok_bit hn hok hk hu).2 h2]; rfl
theorem sub_bit {a b k : Nat} (h : a &&& b = b) (hb : b.testBit k = true) : a.testBit k = true := by
  have := congrArg (fun y => y.testBit k) h
  simp only [Nat.testBit_and, hb, Bool.and_true] at this
  exact this
/-- Two nodes with a common leaf: the one with the smaller number is above. -/
theorem cl_chain {t : List Nd} {n u v k : Nat} (hn : t.length = n) (hok : TreeOk t) (hu : u < n) (hv : v < n) (h1 : (cl t u).testBit k = true) (h2 : (cl t v).testBit k = true) (huv : u ≤ v) : u ∈ pthF t n v := by
  have hk := bit_lt (tok_lt hn hok hu) h1
  exact pth_chain (tok_par hn hok) _ _ (Nat.le_refl _) (tok_leaf hn hok hk).1 u v ((tok_bit hn hok hk hu).1 h1) ((tok_bit hn hok hk hv).1 h2) huv
theorem and_bit {a b : Nat} (h : a &&& b ≠ 0) : ∃ k, a.testBit k = true ∧ b.testBit k = true := by
  obtain ⟨k, hk⟩ := bit_of_ne h
  rw [Nat.testBit_and, Bool.and_eq_true] at hk
  exact ⟨k, hk⟩
/-- The sets of two nodes fit. -/
theorem cl_fit {t : List Nd} {n u v : Nat} (hn : t.length = n) (hok : TreeOk t) (hu : u < n) (hv : v < n) : fitB (cl t u) (cl t v) = true := by
  unfold fitB
  by_cases h0 : cl t u &&& cl t v = 0
  · rw [decide_eq_true h0]; rfl
  · obtain ⟨k, h1, h2⟩ := and_bit h0
    rcases Nat.le_total u v with q | q
    · have := cl_sub hn hok hv (cl_chain hn hok hu hv h1 h2 q)
      rw [decide_eq_true this]; simp
    · have := cl_sub hn hok hu (cl_chain hn hok hv hu h2 h1 q)
      rw [Nat.and_comm] at this
      rw [decide_eq_true this]; simp
theorem leaf_end {t : List Nd} {n l : Nat} (hn : t.length = n) (hok : TreeOk t) (hl : leafB t l = true) : ∀ k y, y ≤ k → y < n → l ∈ pthF t n y → y = l := by
  have hP := tok_par hn hok
  intro k
  induction k with
  | zero =>
    intro y hy hyn h
    obtain rfl : y = 0 := by omega
    rw [pth_zero, List.mem_singleton] at h; exact h.symm
  | succ k ih =>
    intro y hy hyn h
    by_cases e : y = 0
    · subst e; rw [pth_zero, List.mem_singleton] at h; exact h.symm
    · obtain ⟨h1, h2⟩ := hP y (by omega) hyn
      rw [pth_succ hP (by omega) hyn, List.mem_append] at h
      rcases h with h | h
      · have e2 := ih (nP t y).toNat (by omega) (by omega) h
        have hk : kidB t l y = true := by unfold kidB; rw [decide_eq_true (by omega), decide_eq_true (by omega)]; rfl
        rw [leafB_in] at hl
        have : inB t t.length l = true := List.any_eq_true.2 ⟨y, List.mem_range.2 (by omega), hk⟩
        rw [this] at hl; cases hl
      · rw [List.mem_singleton] at h; exact h.symm
theorem leaf_at {t : List Nd} {n l : Nat} (hn : t.length = n) (hok : TreeOk t) (hl : leafB t l = true) (hln : l < n) : ∃ k, k < (lvT t).length ∧ vA (lvT t) k = l := by
  rw [tok_lv hn hok]
  have hm : l ∈ lvsL t n := List.mem_filter.2 ⟨List.mem_range.2 hln, hl⟩
  obtain ⟨k, hk, e⟩ := List.mem_iff_getElem.1 hm
  exact ⟨k, hk, by rw [vA_get hk]; exact e⟩
/-- Each node has a leaf. -/
theorem cl_ne {t : List Nd} {n : Nat} (hn : t.length = n) (hok : TreeOk t) : ∀ j v, n - v ≤ j → v < n → cl t v ≠ 0 := by
  have hP := tok_par hn hok
  intro j
  induction j with
  | zero => intro v h1 h2; omega
  | succ j ih =>
    intro v h1 hv
    by_cases q : leafB t v = true
    · obtain ⟨k, hk, e⟩ := leaf_at hn hok q hv
      have hb : (cl t v).testBit k = true := (tok_bit hn hok hk hv).2 (by rw [e]; exact pth_self hP hv)
      intro h; rw [h, Nat.zero_testBit] at hb; cases hb
    · rw [leafB_in, hn] at q
      have q2 : inB t n v = true := by cases h : inB t n v <;> simp_all
      obtain ⟨c, hc, hk⟩ := List.any_eq_true.1 q2
      have hcn := List.mem_range.1 hc
      unfold kidB at hk
      rw [Bool.and_eq_true, decide_eq_true_eq, decide_eq_true_eq] at hk
      obtain ⟨hc0, hcp⟩ := hk
      obtain ⟨p0, p1⟩ := hP c hc0 hcn
      have hz := ih c (by omega) hcn
      have hm : v ∈ pthF t n c := by
        rw [pth_succ hP hc0 hcn]
        refine List.mem_append_left _ ?_
        rw [hcp, Int.toNat_natCast]; exact pth_self hP hv
      have hs := cl_sub hn hok hcn hm
      intro h; rw [h, Nat.zero_and] at hs; exact hz hs.symm
theorem u8_inj {a b : Nat} (ha : a < 256) (hb : b < 256) (h : UInt8.ofNat a = UInt8.ofNat b) : a = b := by
  have := congrArg UInt8.toNat h
  rw [UInt8.toNat_ofNat', UInt8.toNat_ofNat'] at this
  omega
theorem nmB_of {s : ByteArray} (h1 : ∀ c ∈ s.data.toList, ltrI c.toNat = true) (h2 : 0 < s.data.toList.length) (h3 : s.data.toList.length ≤ 24) : nmB s = true := by
  have e : s.size = s.data.toList.length := Array.length_toList.symm
  unfold nmB
  rw [List.all_eq_true.2 h1, decide_eq_true (by omega), decide_eq_true (by omega)]; rfl
end Go.Proofs.YtfgkjofdgohacaaGreatDoor
namespace Go.Proofs.YtfgkjofdgohacaaGreatDoor
open Go Go.RowKit Go.Shelf
/-- Names in increasing order of their bytes. -/
def ltB (s t : ByteArray) : Bool := decide (s.data.toList < t.data.toList)
def ofBy (l : List UInt8) : ByteArray := ⟨l.toArray⟩
def srtB (l : List ByteArray) : List ByteArray := ((l.map fun s => s.data.toList).mergeSort (fun x y => decide (x ≤ y))).map ofBy
theorem ofBy_to (s : ByteArray) : ofBy s.data.toList = s := by unfold ofBy; cases s; simp
theorem to_ofBy (l : List UInt8) : (ofBy l).data.toList = l := by simp [ofBy]
theorem map_ofBy (l : List ByteArray) : (l.map fun s => s.data.toList).map ofBy = l := by
  rw [List.map_map]
  exact (List.map_congr_left (fun s _ => ofBy_to s)).trans (List.map_id _)
theorem srtB_perm (l : List ByteArray) : (srtB l).Perm l := by
  have h := (List.mergeSort_perm (l.map fun s => s.data.toList) (fun x y => decide (x ≤ y))).map ofBy
  rw [map_ofBy] at h
  exact h
theorem srtB_len (l : List ByteArray) : (srtB l).length = l.length := (srtB_perm l).length_eq
theorem srtB_mem (s : ByteArray) (l : List ByteArray) : s ∈ srtB l ↔ s ∈ l := (srtB_perm l).mem_iff
def LtB (s t : ByteArray) : Prop := s.data.toList < t.data.toList
theorem ltB_iff {s t : ByteArray} : ltB s t = true ↔ LtB s t := by simp [ltB, LtB]
theorem LtB.irr (s : ByteArray) : ¬ LtB s s := fun h => List.lt_irrefl _ h
theorem LtB.trans {s t u : ByteArray} (h1 : LtB s t) (h2 : LtB t u) : LtB s u := List.lt_trans h1 h2
theorem LtB.asy {s t : ByteArray} (h1 : LtB s t) (h2 : LtB t s) : False := LtB.irr s (h1.trans h2)
theorem LtB.tot {s t : ByteArray} (h : ¬ LtB s t) (hne : s ≠ t) : LtB t s := by
  rcases List.le_iff_lt_or_eq.1 (List.not_lt.1 h) with h | h
  · exact h
  · exact absurd (by rw [← ofBy_to s, ← ofBy_to t, h]) hne
theorem srtB_pw {l : List ByteArray} (hn : l.Nodup) : (srtB l).Pairwise LtB := by
  have h1 : ((l.map fun s => s.data.toList).mergeSort (fun x y => decide (x ≤ y))).Pairwise (fun x y => x ≤ y) := by
    have := List.pairwise_mergeSort (le := fun x y => decide ((x : List UInt8) ≤ y)) (fun a b c h1 h2 => by simp at *; exact List.le_trans h1 h2) (fun a b => by simpa using List.le_total a b) (l.map fun s => s.data.toList)
    exact this.imp (fun h => by simpa using h)
  have h2 : (srtB l).Nodup := (srtB_perm l).nodup_iff.2 hn
  have h3 : (srtB l).Pairwise (fun s t => s.data.toList ≤ t.data.toList) := by
    unfold srtB
    rw [List.pairwise_map]
    exact h1.imp (fun h => by rw [to_ofBy, to_ofBy]; exact h)
  refine (h3.and h2).imp fun {s t} ⟨a, b⟩ => ?_
  rcases List.le_iff_lt_or_eq.1 a with h | h
  · exact h
  · exact absurd (by rw [← ofBy_to s, h, ofBy_to]) b
theorem srtB_ext {l m : List ByteArray} (hl : l.Pairwise LtB) (hm : m.Pairwise LtB) (h : ∀ x, x ∈ l ↔ x ∈ m) : l = m :=
  sorted_ext4 (R := LtB) LtB.irr (fun _ _ h1 h2 => h1.asy h2) hl hm h
/-- The place of a name in a list. -/
def plN (L : List ByteArray) (s : ByteArray) : Nat := L.findIdx fun t => decide (t = s)
theorem plN_lt {L : List ByteArray} {s : ByteArray} (h : s ∈ L) : plN L s < L.length := List.findIdx_lt_length_of_exists ⟨s, h, by simp⟩
theorem plN_at {L : List ByteArray} {s : ByteArray} (h : s ∈ L) : L.getD (plN L s) ByteArray.empty = s := by
  have h1 := plN_lt h
  have h2 : decide (L[plN L s] = s) = true := List.findIdx_getElem (p := fun t => decide (t = s)) (w := h1)
  rw [List.getD_eq_getElem?_getD, List.getElem?_eq_getElem h1]
  simpa using h2
theorem plN_inj {L : List ByteArray} {s t : ByteArray} (hs : s ∈ L) (ht : t ∈ L) (h : plN L s = plN L t) : s = t := by
  rw [← plN_at hs, ← plN_at ht, h]
/-- The names of the leaves, in increasing order. -/
def nmsL (t : List Nd) : List ByteArray := srtB ((lvT t).map (nS t))
theorem nmsL_len (t : List Nd) : (nmsL t).length = (lvT t).length := by unfold nmsL; rw [srtB_len, List.length_map]
/-- What a leaf begins with. -/
def bot4 (t : List Nd) (v : Nat) : Nat := if leafB t v then 2 ^ plN (nmsL t) (nS t v) else 0
/-- The sets behind j steps upwards. -/
def upX (t : List Nd) (b : Nat → Nat) : Nat → Nat → Nat
  | 0, v => b v
  | j + 1, v => if nP t (t.length - 1 - j) = (v : Int) then upX t b j v ||| upX t b j (t.length - 1 - j) else upX t b j v
/-- The clade of a node. -/
def cl4 (t : List Nd) (v : Nat) : Nat := upX t (bot4 t) (t.length - 1) v
theorem upX_none (t : List Nd) (b : Nat → Nat) {j : Nat} (h : ∀ v, v < t.length → (b v).testBit j = false) : ∀ k v, v < t.length → (upX t b k v).testBit j = false := by
  intro k
  induction k with
  | zero => exact h
  | succ k ih =>
    intro v hv
    unfold upX
    split
    · rw [Nat.testBit_or, ih _ hv, ih _ (by omega)]; rfl
    · exact ih v hv
theorem upX_lt {t : List Nd} {b : Nat → Nat} {m : Nat} (h : ∀ v, v < t.length → b v < 2 ^ m) : ∀ k v, v < t.length → upX t b k v < 2 ^ m := by
  intro k
  induction k with
  | zero => exact h
  | succ k ih =>
    intro v hv
    unfold upX
    split
    · exact Nat.or_lt_two_pow (ih _ hv) (ih _ (by omega))
    · exact ih v hv
theorem upX_bit {t : List Nd} {n x k : Nat} {b : Nat → Nat} (hn : t.length = n) (hP : ∀ v, 0 < v → v < n → 0 ≤ nP t v ∧ nP t v < v) (hx : x < n) (hb : ∀ v, v < n → ((b v).testBit k = true ↔ x = v)) : ∀ j v, j + 1 ≤ n → v < n →
    ((upX t b j v).testBit k = true ↔ v ∈ pthF t n x ∧ ∀ u, u ∈ pthF t n x → v < u → n - j ≤ u) := by
  intro j
  induction j with
  | zero =>
    intro v _ hv
    show (b v).testBit k = true ↔ _
    rw [hb v hv]
    constructor
    · rintro rfl
      refine ⟨pth_self hP hx, fun u hu hlt => ?_⟩
      have := pth_lt hP x x (Nat.le_refl _) hx u hu; omega
    · rintro ⟨h1, h2⟩
      have h3 := pth_lt hP x x (Nat.le_refl _) hx v h1
      rcases Nat.lt_or_ge v x with h4 | h4
      · have := h2 x (pth_self hP hx) h4; omega
      · omega
  | succ j ih =>
    intro v hj hv
    obtain ⟨c, hc⟩ : ∃ c, c = n - 1 - j := ⟨_, rfl⟩
    have hc0 : 0 < c := by omega
    have hcn : c < n := by omega
    have hups : upX t b (j + 1) v = if nP t c = (v : Int) then upX t b j v ||| upX t b j c else upX t b j v := by rw [upX, hn, hc]
    have ec : n - (j + 1) = c := by omega
    have ej : n - j = c + 1 := by omega
    rw [hups, ec]
    clear hups
    have hv1 := ih v (by omega) hv
    have hc1 := ih c (by omega) hcn
    rw [ej] at hv1 hc1
    by_cases e : nP t c = (v : Int)
    · rw [if_pos e, Nat.testBit_or, Bool.or_eq_true, hv1, hc1]
      constructor
      · rintro (⟨h1, h2⟩ | ⟨h1, h2⟩)
        · exact ⟨h1, fun u hu hlt => by have := h2 u hu hlt; omega⟩
        · have hvx : v ∈ pthF t n x := by
            refine (pth_prefix hP x x (Nat.le_refl _) hx h1).subset ?_
            rw [pth_succ hP hc0 hcn, e]
            exact List.mem_append_left _ (by rw [Int.toNat_natCast]; exact pth_self hP hv)
          refine ⟨hvx, fun u hu hlt => ?_⟩
          rcases Nat.lt_or_ge u c with h4 | h4
          · have h5 := pth_chain hP x x (Nat.le_refl _) hx u c hu h1 (by omega)
            rw [pth_succ hP hc0 hcn, e, Int.toNat_natCast, List.mem_append] at h5
            rcases h5 with h5 | h5
            · have := pth_lt hP v v (Nat.le_refl _) hv u h5; omega
            · rw [List.mem_singleton] at h5; omega
          · exact h4
      · rintro ⟨h1, h2⟩
        by_cases hcx : c ∈ pthF t n x
        · exact .inr ⟨hcx, fun u hu hlt => hlt⟩
        · exact .inl ⟨h1, fun u hu hlt => by
            have h3 := h2 u hu hlt
            rcases Nat.lt_or_ge c u with h4 | h4
            · exact h4
            · obtain rfl : u = c := by omega
              exact absurd hu hcx⟩
    · rw [if_neg e, hv1]
      constructor
      · rintro ⟨h1, h2⟩
        exact ⟨h1, fun u hu hlt => by have := h2 u hu hlt; omega⟩
      · rintro ⟨h1, h2⟩
        refine ⟨h1, fun u hu hlt => ?_⟩
        have h3 := h2 u hu hlt
        rcases Nat.lt_or_ge c u with h4 | h4
        · exact h4
        · obtain rfl : u = c := by omega
          exact absurd (pth_above hP hx h1 hu hlt h2) e
end Go.Proofs.YtfgkjofdgohacaaGreatDoor
namespace Go.Proofs.YtfgkjofdgohacaaGreatDoor
open Go Go.RowKit Go.Shelf
theorem tok_names {t : List Nd} {n : Nat} (hn : t.length = n) (hok : TreeOk t) {u v : Nat} (hu : u < n) (hv : v < n) (h : nS t u = nS t v) : u = v := by
  have key : ∀ u v, u < v → v < n → nS t u ≠ nS t v := fun u v huv hv e => by
    have h2 := (hok.2.2 v (by omega)).2.2.2
    unfold seenB at h2
    rw [List.any_eq_false] at h2
    exact h2 u (List.mem_range.2 huv) (by simpa using e)
  rcases Nat.lt_trichotomy u v with q | q | q
  · exact absurd h (key u v q hv)
  · exact q
  · exact absurd h.symm (key v u q hu)
theorem lv_mem {t : List Nd} {n u : Nat} (hn : t.length = n) (hok : TreeOk t) : u ∈ lvT t ↔ u < n ∧ leafB t u = true := by
  rw [tok_lv hn hok]
  unfold lvsL
  rw [List.mem_filter, List.mem_range]
theorem nms_mem {t : List Nd} {n u : Nat} (hn : t.length = n) (hok : TreeOk t) (hu : u < n) (hl : leafB t u = true) : nS t u ∈ nmsL t := by
  unfold nmsL
  rw [srtB_mem, List.mem_map]
  exact ⟨u, (lv_mem hn hok).2 ⟨hu, hl⟩, rfl⟩
theorem nms_nodup {t : List Nd} {n : Nat} (hn : t.length = n) (hok : TreeOk t) : ((lvT t).map (nS t)).Nodup := by
  have h1 : (lvT t).Nodup := by
    rw [tok_lv hn hok]
    have h2 : (lvsL t n).Pairwise (· < ·) := List.Pairwise.filter _ List.pairwise_lt_range
    exact h2.imp (fun h => Nat.ne_of_lt h)
  unfold List.Nodup
  rw [List.pairwise_map]
  refine List.Pairwise.imp_of_mem (fun {a b} ha hb hne e => hne ?_) h1
  exact tok_names hn hok ((lv_mem hn hok).1 ha).1 ((lv_mem hn hok).1 hb).1 e
theorem nms_pw {t : List Nd} {n : Nat} (hn : t.length = n) (hok : TreeOk t) : (nmsL t).Pairwise LtB := srtB_pw (nms_nodup hn hok)
/-- The place of a leaf among the names. -/
def pl4 (t : List Nd) (u : Nat) : Nat := plN (nmsL t) (nS t u)
theorem pl4_lt {t : List Nd} {n u : Nat} (hn : t.length = n) (hok : TreeOk t) (hu : u < n) (hl : leafB t u = true) : pl4 t u < (lvT t).length := by
  rw [← nmsL_len]; exact plN_lt (nms_mem hn hok hu hl)
theorem pl4_inj {t : List Nd} {n u v : Nat} (hn : t.length = n) (hok : TreeOk t) (hu : u < n) (hl : leafB t u = true) (hv : v < n) (hm : leafB t v = true) (h : pl4 t u = pl4 t v) : u = v :=
  tok_names hn hok hu hv (plN_inj (nms_mem hn hok hu hl) (nms_mem hn hok hv hm) h)
theorem bot4_bit {t : List Nd} {n u v : Nat} (hn : t.length = n) (hok : TreeOk t) (hu : u < n) (hl : leafB t u = true) (hv : v < n) : (bot4 t v).testBit (pl4 t u) = true ↔ u = v := by
  unfold bot4
  by_cases q : leafB t v = true
  · rw [if_pos q, Nat.testBit_two_pow, decide_eq_true_eq]
    exact ⟨fun h => (pl4_inj hn hok hv q hu hl h).symm, fun h => by rw [h]; rfl⟩
  · rw [if_neg q, Nat.zero_testBit]
    exact ⟨fun h => (by cases h), fun h => by rw [h] at hl; exact absurd hl q⟩
/-- The bit of a leaf: the node lies on its way. -/
theorem cl4_bit {t : List Nd} {n u v : Nat} (hn : t.length = n) (hok : TreeOk t) (hu : u < n) (hl : leafB t u = true) (hv : v < n) : (cl4 t v).testBit (pl4 t u) = true ↔ v ∈ pthF t n u := by
  unfold cl4
  rw [hn, upX_bit hn (tok_par hn hok) hu (fun v hv => bot4_bit hn hok hu hl hv) (n - 1) v (by omega) hv]
  exact ⟨fun h => h.1, fun h => ⟨h, fun w _ hlt => by omega⟩⟩
theorem bot4_lt {t : List Nd} {n : Nat} (hn : t.length = n) (hok : TreeOk t) (v : Nat) (hv : v < n) : bot4 t v < 2 ^ (lvT t).length := by
  unfold bot4
  by_cases q : leafB t v = true
  · rw [if_pos q]
    exact Nat.pow_lt_pow_right (by omega) (pl4_lt hn hok hv q)
  · rw [if_neg q]; exact Nat.two_pow_pos _
theorem cl4_lt {t : List Nd} {n v : Nat} (hn : t.length = n) (hok : TreeOk t) (hv : v < n) : cl4 t v < 2 ^ (lvT t).length :=
  upX_lt (fun v hv => bot4_lt hn hok v (by rw [← hn]; exact hv)) _ v (by rw [hn]; exact hv)
/-- Each place is that of a leaf. -/
theorem pl4_sur {t : List Nd} {n j : Nat} (hn : t.length = n) (hok : TreeOk t) (hj : j < (lvT t).length) : ∃ u, u < n ∧ leafB t u = true ∧ pl4 t u = j := by
  have hj2 : j < (nmsL t).length := by rw [nmsL_len]; exact hj
  have hm : (nmsL t)[j] ∈ nmsL t := List.getElem_mem hj2
  have hm2 := hm
  unfold nmsL at hm2
  rw [srtB_mem, List.mem_map] at hm2
  obtain ⟨u, hu, e⟩ := hm2
  obtain ⟨h1, h2⟩ := (lv_mem hn hok).1 hu
  refine ⟨u, h1, h2, ?_⟩
  have e2 : nS t u = (nmsL t)[j] := e
  unfold pl4
  rw [e2]
  have hk := plN_lt hm
  have hat := plN_at hm
  rw [List.getD_eq_getElem?_getD, List.getElem?_eq_getElem hk, Option.getD_some] at hat
  have hnd : (nmsL t).Nodup := (nms_pw hn hok).imp fun h e => by rw [e] at h; exact LtB.irr _ h
  exact (List.getElem_inj hnd).1 hat
theorem cl4_cl {t : List Nd} {n v k : Nat} (hn : t.length = n) (hok : TreeOk t) (hk : k < (lvT t).length) (hv : v < n) : (cl4 t v).testBit (pl4 t (vA (lvT t) k)) = (cl t v).testBit k := by
  obtain ⟨h1, h2⟩ := tok_leaf hn hok hk
  rw [Bool.eq_iff_iff, cl4_bit hn hok h1 h2 hv, tok_bit hn hok hk hv]
/-- Two clades alike in the places of all leaves. -/
theorem cl4_ext {t : List Nd} {n x y : Nat} (hn : t.length = n) (hok : TreeOk t) (hx : x < 2 ^ (lvT t).length) (hy : y < 2 ^ (lvT t).length) (h : ∀ u, u < n → leafB t u = true → x.testBit (pl4 t u) = y.testBit (pl4 t u)) : x = y := by
  apply Nat.eq_of_testBit_eq
  intro j
  by_cases hj : j < (lvT t).length
  · obtain ⟨u, h1, h2, e⟩ := pl4_sur hn hok hj
    rw [← e]; exact h u h1 h2
  · have hp : 2 ^ (lvT t).length ≤ 2 ^ j := Nat.pow_le_pow_right (by omega) (by omega)
    rw [Nat.testBit_lt_two_pow (by omega), Nat.testBit_lt_two_pow (by omega)]
theorem cl4_root {t : List Nd} {n : Nat} (hn : t.length = n) (hok : TreeOk t) : cl4 t 0 = 2 ^ (lvT t).length - 1 := by
  have h0 : 0 < n := by have := hok.1; omega
  refine cl4_ext hn hok (cl4_lt hn hok h0) (by have := Nat.two_pow_pos (lvT t).length; omega) fun u hu hl => ?_
  rw [Nat.testBit_two_pow_sub_one, decide_eq_true (pl4_lt hn hok hu hl)]
  exact (cl4_bit hn hok hu hl h0).2 (pth_root t n u)
theorem cl4_leaf {t : List Nd} {n v : Nat} (hn : t.length = n) (hok : TreeOk t) (hv : v < n) (hl : leafB t v = true) : cl4 t v = 2 ^ pl4 t v := by
  refine cl4_ext hn hok (cl4_lt hn hok hv) (Nat.pow_lt_pow_right (by omega) (pl4_lt hn hok hv hl)) fun u hu hlu => ?_
  rw [Bool.eq_iff_iff, cl4_bit hn hok hu hlu hv, Nat.testBit_two_pow, decide_eq_true_eq]
  constructor
  · intro h
    rw [leaf_end hn hok hl u u (Nat.le_refl _) hu h]
  · intro h
    rw [pl4_inj hn hok hv hl hu hlu h]
    exact pth_self (tok_par hn hok) hu
theorem cl4_fit {t : List Nd} {n u v : Nat} (hn : t.length = n) (hok : TreeOk t) (hu : u < n) (hv : v < n) : fitB (cl4 t u) (cl4 t v) = true := by
  have hc := cl_fit hn hok hu hv
  have tr : ∀ {a b c : Nat}, a < n → b < n → c < n → cl t a &&& cl t b = cl t c → cl4 t a &&& cl4 t b = cl4 t c := fun {a b c} ha hb hc h => by
    refine cl4_ext hn hok (Nat.and_lt_two_pow _ (cl4_lt hn hok hb)) (cl4_lt hn hok hc) fun w hw hl => ?_
    rw [Nat.testBit_and, Bool.eq_iff_iff, Bool.and_eq_true, cl4_bit hn hok hw hl ha, cl4_bit hn hok hw hl hb, cl4_bit hn hok hw hl hc]
    obtain ⟨k, hk, e⟩ := leaf_at hn hok hl hw
    rw [← e, ← tok_bit hn hok hk ha, ← tok_bit hn hok hk hb, ← tok_bit hn hok hk hc, ← h, Nat.testBit_and, Bool.and_eq_true]
  unfold fitB at hc ⊢
  rw [Bool.or_eq_true, Bool.or_eq_true, decide_eq_true_eq, decide_eq_true_eq, decide_eq_true_eq] at hc ⊢
  rcases hc with (h | h) | h
  · refine .inl (.inl ?_)
    refine cl4_ext hn hok (Nat.and_lt_two_pow _ (cl4_lt hn hok hv)) (Nat.two_pow_pos _) fun w hw hl => ?_
    rw [Nat.testBit_and, Nat.zero_testBit, Bool.eq_iff_iff, Bool.and_eq_true, cl4_bit hn hok hw hl hu, cl4_bit hn hok hw hl hv]
    obtain ⟨k, hk, e⟩ := leaf_at hn hok hl hw
    rw [← e, ← tok_bit hn hok hk hu, ← tok_bit hn hok hk hv, ← Bool.and_eq_true, ← Nat.testBit_and, h]
    simp
  · exact .inl (.inr (tr hu hv hu h))
  · exact .inr (tr hu hv hv h)
theorem cl4_ne {t : List Nd} {n v : Nat} (hn : t.length = n) (hok : TreeOk t) (hv : v < n) : cl4 t v ≠ 0 := fun e => by
  have h1 := cl_ne hn hok n v (by omega) hv
  obtain ⟨k, hk⟩ := bit_of_ne4 h1
  have hkl := bit_lt4 (tok_lt hn hok hv) hk
  rw [← cl4_cl hn hok hkl hv, e, Nat.zero_testBit] at hk
  cases hk
/-- The clades of a tree. -/
def clsL (t : List Nd) : List Nat := sdU ((List.range t.length).map (cl4 t))
theorem cls_mem {t : List Nd} {x : Nat} : x ∈ clsL t ↔ ∃ v, v < t.length ∧ cl4 t v = x := by
  unfold clsL
  rw [sdU_mem, List.mem_map]
  constructor
  · rintro ⟨v, h, e⟩; exact ⟨v, List.mem_range.1 h, e⟩
  · rintro ⟨v, h, e⟩; exact ⟨v, List.mem_range.2 h, e⟩
theorem cls_pw (t : List Nd) : (clsL t).Pairwise (· < ·) := sdU_pw _
theorem cls_len (t : List Nd) : (clsL t).length ≤ t.length := by
  have := sdU_le ((List.range t.length).map (cl4 t))
  rw [List.length_map, List.length_range] at this
  exact this
end Go.Proofs.YtfgkjofdgohacaaGreatDoor
namespace Go.Proofs.YtfgkjofdgohacaaGreatDoor
open Go Go.RowKit
theorem plN_lt_iff {L : List ByteArray} (hp : L.Pairwise LtB) {s : ByteArray} (hs : s ∈ L) {h : Nat} (hh : h < L.length) : LtB (sA L h) s ↔ h < plN L s := by
  have hk := plN_lt hs
  have hat := plN_at hs
  have ea : ∀ i (hi : i < L.length), sA L i = L[i] := fun i hi => by simp [sA, hi]
  have ek : sA L (plN L s) = s := hat
  constructor
  · intro h1
    rcases Nat.lt_or_ge h (plN L s) with q | q
    · exact q
    · by_cases e : plN L s = h
      · rw [← e, ek] at h1; exact absurd h1 (LtB.irr _)
      · have := List.pairwise_iff_getElem.1 hp (plN L s) h hk hh (by omega)
        rw [← ea _ hk, ← ea _ hh, ek] at this
        exact absurd (h1.trans this) (LtB.irr _)
  · intro h1
    have := List.pairwise_iff_getElem.1 hp h (plN L s) hh hk h1
    rw [← ea _ hk, ← ea _ hh, ek] at this
    exact this
theorem bytesL_eq : ∀ x y : List UInt8, Op.bytesLess x y = decide (x < y)
  | [], [] => by simp [Op.bytesLess]
  | _ :: _, [] => by simp [Op.bytesLess]
  | [], _ :: _ => by simp [Op.bytesLess]
  | a :: x, b :: y => by
    rw [Op.bytesLess, bytesL_eq x y, Bool.eq_iff_iff]
    simp [List.cons_lt_cons_iff]
set_option maxHeartbeats 1000000 in
theorem nanS_any (x : ByteArray) (w : World) : Calls Tryz.prog 155 #[.string x] w fun e w' => e = .returned (.bool false) ∧ w' = w := by
  go_enter Tryz.func155, Tryz.ntmps155
  go_wp2_with fail
  go_ret
  exact ⟨by simp, rfl⟩
set_option maxHeartbeats 1000000 in
theorem lessS_any (x y : ByteArray) (w : World) : Calls Tryz.prog 131 #[.string x, .string y] w fun e w' => e = .returned (.bool (ltB x y)) ∧ w' = w := by
  have H := Lib.hid (fun x w => nanS_any x w)
  go_enter Tryz.func131, Tryz.ntmps131
  go_wp2_with (go_at_call 155; refine (H.out _ _).mono ?_; rintro e w' ⟨rfl, rfl⟩)
  go_ret
  refine ⟨?_, rfl⟩
  show Ending.returned (.bool (Op.bytesLess x.toList y.toList)) = _
  rw [bytesL_eq, ByteArray.toList_eq, ByteArray.toList_eq]
  rfl
set_option maxRecDepth 100000 in
set_option maxHeartbeats 4000000 in
theorem bsearch_any (a : Option Addr) (N c : Nat) (L : List ByteArray) (s : ByteArray) (w : World) (hl : L.length = N) (hN : N ≤ 1048576) (hA : Rd w a (fl encS L)) (hp : L.Pairwise LtB) (hs : s ∈ L) :
    Calls Tryz.prog 116 #[.slice a N c, .string s] w fun e w' => e = .returned (.tuple #[.int .i64 (plN L s : Nat), .bool true]) ∧ w' = w := by
  have HL := Lib.hid hl
  have HP := Lib.hid (fun h hh => plN_lt_iff hp hs (h := h) hh)
  have HLE := Lib.hid (fun x y w => lessS_any x y w)
  obtain ⟨p, hpd⟩ : ∃ p, p = plN L s := ⟨_, rfl⟩
  have hpN : p < N := by rw [hpd, ← hl]; exact plN_lt hs
  have hps : sA L p = s := by rw [hpd]; exact plN_at hs
  rw [← hpd] at HP ⊢
  obtain ⟨b, o, rfl, hb, hc⟩ := rdS hA (by omega)
  have HC := Lib.hid hc
  have HPS := Lib.hid hps
  clear hl hp hs hpd hA hc hps
  go_enter Tryz.func116, Tryz.ntmps116
  go_wp2_with fail
  go_loopw [7, 8, 9] (fun x y _ wr => ∃ i j : Nat, x = .int .i64 i ∧ y = .int .i64 j ∧ i ≤ p ∧ p ≤ j ∧ j ≤ N ∧ wr = w) (fun x y _ _ => (intOf y - intOf x).toNat)
  case atStart => exact ⟨0, N, rfl, rfl, by omega, by omega, by omega, rfl⟩
  case round =>
    obtain ⟨i, j, rfl, rfl, hip, hpj, hjN, rfl⟩ := hrel
    by_cases hlt : i < j
    · obtain ⟨h, hh⟩ : ∃ h, h = (i + j) / 2 := ⟨_, rfl⟩
      have eh : ((i : Int) + (j : Int)) / 2 = (h : Int) := by omega
      have h1 : i ≤ h := by omega
      have h2 : h < j := by omega
      have hc := HC.out h (by rw [HL.out]; omega)
      clear hh
      by_cases hq : h < p
      · have hL : ltB (sA L h) s = true := by rw [ltB_iff]; exact (HP.out h (by rw [HL.out]; omega)).2 hq
        have HCL : Hid (∀ W, Calls Tryz.prog 131 #[.string (sA L h), .string s] W fun e w' => e = .returned (.bool true) ∧ w' = W) := fun W => by rw [← hL]; exact HLE.out _ _ W
        clear hL
        generalize sA L h = z at *
        go_wp2_with (go_at_call 131; refine (HCL.out _).mono ?_; rintro e w' ⟨rfl, rfl⟩)
        go_roundw
        case rel => exact ⟨h + 1, j, by go_num, rfl, by omega, hpj, hjN, by trivial⟩
        case measure => simp [intOf]; omega
      · have hL : ltB (sA L h) s = false := by
          rw [Bool.eq_false_iff]
          intro e
          exact hq ((HP.out h (by rw [HL.out]; omega)).1 (ltB_iff.1 e))
        have HCL : Hid (∀ W, Calls Tryz.prog 131 #[.string (sA L h), .string s] W fun e w' => e = .returned (.bool false) ∧ w' = W) := fun W => by rw [← hL]; exact HLE.out _ _ W
        clear hL
        generalize sA L h = z at *
        go_wp2_with (go_at_call 131; refine (HCL.out _).mono ?_; rintro e w' ⟨rfl, rfl⟩)
        go_roundw
        case rel => exact ⟨i, h, rfl, rfl, hip, by omega, by omega, by trivial⟩
        case measure => simp [intOf]; omega
    · obtain rfl : i = p := by omega
      have hc := HC.out i (by rw [HL.out]; omega)
      have t1 : (s.toList == s.toList) = true := beq_self_eq_true _
      rw [HPS.out] at hc
      go_wp2_with fail
      go_ret2
      exact ⟨rfl, rfl⟩
end Go.Proofs.YtfgkjofdgohacaaGreatDoor
namespace Go.Proofs.YtfgkjofdgohacaaGreatDoor
open Go Go.RowKit Go.Shelf Go.Sort
theorem info_S4 : (Tryz.prog.info? 9).map (fun i => (i.zero, i.size, i.bytes)) = some (some (.string ByteArray.empty), 1, 16) := by kernel_rfl
theorem push_S4 {w : World} {ops : Array Oper} {rest : List Oper} {o : Oper} {a : Act} {Q : Exit → Act → World → Prop} (hgd : o.guard = none) (s x : Operand) (ho : o.op = .call { callee := .builtin .append, args := #[s, x], argTypes := #[46, 46] })
    (base : Nat) (v : Value) (l : List ByteArray) (n : Nat) (hn : n = l.length) (hs : a.eval s = v) (hown : w.ownsRow base 9 1 v n (fl encS l)) (B c : Nat) (y : ByteArray) (hx : a.eval x = .slice (some ⟨B, 0, none⟩) 1 c) (hB : Blk w B (encS y).toArray 9) (hl : n < 8796093022208) (hbase : base ≤ w.heap.size)
    (h : ∀ g cap w', w'.ownsRow base 9 1 (.slice (some ⟨g, 0, none⟩) (n + 1) cap) (n + 1) (fl encS (l ++ [y])) → w.grownBy w' v.ownBlock → (v.ownBlock = some g ∨ g = w.heap.size) → g < w'.heap.size → wpList Tryz.prog ops Q rest (a.put o.dst (.slice (some ⟨g, 0, none⟩) (n + 1) cap)) w') : wpList Tryz.prog ops Q (o :: rest) a w := by
  obtain ⟨i0, hi, hz0, hz1, hz2⟩ := info_parts info_S4
  refine wpList_append_lies w hgd s x 46 ho base 9 i0 _ 1 16 Tryz.underlying46 hi hz0 hz1 hz2 rfl (by decide) v n (fl encS l) hs hown ⟨B, 0, none⟩ 1 c (encS y) hx (by simp [encS]) (World.news_of_block (cs := (encS y).toArray) (t := 9) (fr := (0, 0)) hB) (by intro u hu; simp [encS] at hu; subst hu; rfl) (by omega) (by unfold maxLen; omega) (by omega) hbase _ rfl ?_
  intro g cap w' h1 h2 h3 h4
  rw [← fl_snoc] at h1
  exact h g cap w' h1 h2 h3 h4
theorem fl_S (l : List ByteArray) : fl encS l = (l.map fun s => s.data.toList).map encStr := by
  induction l with
  | nil => rfl
  | cons a l ih =>
    have : fl encS (a :: l) = encS a ++ fl encS l := by simp [fl]
    rw [this, ih]
    simp [encS, encStr]
theorem owns_putG {α : Type} [Inhabited α] (enc : α → Value) {w : World} {base e cap g : Nat} {l : List α} (h : w.ownsRow base e 1 (.slice (some ⟨g, 0, none⟩) l.length cap) l.length (l.map enc)) (m : List α) (hm : m.length = l.length) :
    (putRow enc w g 0 m.toArray).ownsRow base e 1 (.slice (some ⟨g, 0, none⟩) l.length cap) l.length (m.map enc) := by
  rcases h.2 with ⟨hv, _⟩ | ⟨g', cap', cur, hv, hg, hh, hn, hmx, hcs, _⟩
  · cases hv
  · cases hv
    refine ⟨by rw [List.length_map, hm]; omega, .inr ⟨g, cap, putCells enc 0 m.toArray cur, rfl, hg, by simp [putRow, mapBlock, Array.getElem?_modify, hh, onCells], hn, hmx, by simp [putCells, hcs], ?_⟩⟩
    apply List.ext_getElem?
    intro i
    by_cases hi : i < m.length
    · have h1 : i < cur.size := by omega
      simp [putCells, hi, h1, ← hm]
    · rw [List.getElem?_eq_none (by rw [List.length_take]; omega), List.getElem?_eq_none (by rw [List.length_map]; omega)]
theorem holdsG {α : Type} [Inhabited α] (enc : α → Value) {w : World} {base e cap g : Nat} {l : List α} (h : w.ownsRow base e 1 (.slice (some ⟨g, 0, none⟩) l.length cap) l.length (l.map enc)) : Holds enc w g 0 l.toArray := by
  rcases h.2 with ⟨hv, _⟩ | ⟨g', cap', cur, hv, hg, hh, hn, hmx, hcs, ht⟩
  · cases hv
  · cases hv
    intro j hj
    have hj : j < l.length := by simpa using hj
    have h1 : j < cur.size := by omega
    have h2 : cur[j]? = some (enc l.toArray[j]!) := by
      have := congrArg (fun l => l[j]?) ht
      simp [h1, hj] at this
      simp [h1, hj, this]
    refine ⟨?_, ?_⟩
    · simp [World.cell?, hh, h2]
    · simp [World.frozen?, hh]
theorem below_putG {α : Type} [Inhabited α] (enc : α → Value) {a w : World} (ha : Go.RowKit.Below a.heap.size a w) {g : Nat} (hg : a.heap.size ≤ g) (m : Nat) (d : Array α) (os : Array Obj) : Go.RowKit.Below a.heap.size a (grow (putRow enc (Sort.ahead w m) g 0 d) os) := by
  have h1 : Go.RowKit.Below a.heap.size a (putRow enc (Sort.ahead w m) g 0 d) := by
    refine ⟨ha.os, ha.tape, ha.output, ?_, fun k hk => ?_⟩
    · rw [size_putRow]; exact ha.size
    · rw [← ha.block k hk]
      simp only [putRow, mapBlock, Array.getElem?_modify]
      rw [if_neg (show ¬ g = k by omega)]
      rfl
  exact bl_growN h1 os
theorem sortRowS_any {w : World} {base n : Nat} {v : Value} (l : List ByteArray) (hn : n = l.length) (h : w.ownsRow base 9 1 v n (fl encS l)) (hsz : n < 1048576) :
    Calls Tryz.prog 115 #[v] w fun e w' => e = .returned (.tuple #[]) ∧ w'.ownsRow base 9 1 v n (fl encS (srtB l)) ∧ ∀ a : World, Go.RowKit.Below a.heap.size a w → a.heap.size ≤ base → Go.RowKit.Below a.heap.size a w' := by
  subst hn
  rcases h.2 with ⟨rfl, hnil⟩ | ⟨g, cap, cur, rfl, hg, hh, _⟩
  · have e : l = [] := List.eq_nil_of_length_eq_zero hnil
    subst e
    refine (Tryz.slices_Sort_string_none none 0 w).mono ?_
    rintro e w' ⟨he, rfl⟩
    exact ⟨he, (by rw [show srtB [] = [] by simp [srtB]]; exact h), fun a ha _ => ha⟩
  · obtain ⟨ls, hls⟩ : ∃ ls, ls = l.map fun s => s.data.toList := ⟨_, rfl⟩
    have hlen : ls.length = l.length := by rw [hls, List.length_map]
    have h2 := h
    rw [fl_S, ← hls, ← hlen] at h2
    have hc := Tryz.slices_Sort_string g 0 cap ls w (holdsG encStr h2) (h.lt g rfl).2 (by omega)
    rw [hlen] at hc
    refine hc.mono ?_
    rintro e w' ⟨he, q, os, rfl⟩
    refine ⟨he, ?_, fun a ha hb => below_putG encStr ha (by omega) q _ os⟩
    have h3 : (Sort.ahead w q).ownsRow base 9 1 (.slice (some ⟨g, 0, none⟩) ls.length cap) ls.length (ls.map encStr) := h2
    have h4 := owns_putG encStr h3 (ls.mergeSort fun x y => decide (x ≤ y)) (List.length_mergeSort ls)
    have h5 := owns_below h4 (bl_growN (Go.RowKit.Below.refl _ _) os)
    rw [hlen] at h5
    have e : fl encS (srtB l) = (ls.mergeSort fun x y => decide (x ≤ y)).map encStr := by
      rw [fl_S]
      congr 1
      unfold srtB
      rw [← hls, List.map_map]
      exact (List.map_congr_left (fun s _ => to_ofBy s)).trans (List.map_id _)
    rw [e]
    exact h5
end Go.Proofs.YtfgkjofdgohacaaGreatDoor
namespace Go.Proofs.YtfgkjofdgohacaaGreatDoor
open Go Go.RowKit Go.Shelf
theorem u64s_made4 (n : Nat) : madeCells #[Value.int .u64 0] n = ofF n (fun _ => .int .u64 0) := by
  apply Array.ext
  · simp [madeCells, ofF]
  · intro i h1 h2
    simp [madeCells, ofF, Nat.mod_one]
theorem rd_grown4 {w2 w6 w9 : World} {g : Nat} {a : Option Addr} {cs : List Value} (h : Rd w2 a cs) (hb : Below w2.heap.size w2 w6) (hg : w6.grownBy w9 (some g)) (hgz : w2.heap.size ≤ g) : Rd w9 a cs := by
  intro h0
  obtain ⟨b, off, e, hlt, hc⟩ := h h0
  have h1 := hb.size
  have h2 := hg.size
  refine ⟨b, off, e, by omega, fun i hi => ?_⟩
  exact hg.cell (a := ⟨b, off + i, none⟩) ((hb.cell (p := ⟨b, off + i, none⟩) hlt).trans (hc i hi)) (fun e2 => by have := Option.some.inj e2; simp at this; omega)
theorem gr_blk4 {w w' : World} {g : Nat} (h : w.grownBy w' (some g)) {B : Nat} {cs : Array Value} {t : TypeId} (hb : Blk w B cs t) (hne : B ≠ g) : Blk w' B cs t := hb.grown h (fun e => hne (Option.some.inj e))
theorem owns_ofF {w : World} {base g n : Nat} {e : TypeId} {f : Nat → Nat} (h : Blk w g (ofF n fun u => .int .u64 ((f u : Nat) : Int)) e) (hg : base ≤ g) (hn : n ≤ 1048576) : w.ownsRow base e 1 (.slice (some ⟨g, 0, none⟩) n n) n (fl encV ((List.range n).map f)) := by
  refine ⟨by rw [fl_length encV_len]; simp, .inr ⟨g, n, _, rfl, hg, h, Nat.le_refl _, by unfold maxLen; omega, by rw [ofF_size]; omega, ?_⟩⟩
  rw [fl_V]
  apply List.ext_getElem?
  intro i
  by_cases hi : i < n
  · simp [hi, ofF, encN]
  · rw [List.getElem?_eq_none (by rw [List.length_take, Array.length_toList, ofF_size]; omega), List.getElem?_eq_none (by simp; omega)]
/-- The clades of the nodes, as they come. -/
def ndsU (t : List Nd) : List Nat := (List.range t.length).map (cl4 t)
def setU (t : List Nd) : List Nat := addL [] (ndsU t)
theorem setU_sd (t : List Nd) : sdU (setU t) = clsL t := by
  unfold setU clsL
  exact sdU_congr fun x => by rw [addL_mem]; simp [ndsU]
/-- A shape: names, clades of the nodes, set of clades. -/
abbrev Shp := Rw × Rw × Nat
def encSh (x : Shp) : List Value := [.slice x.1.1 x.1.2.1 x.1.2.2, .slice x.2.1.1 x.2.1.2.1 x.2.1.2.2, .map (some x.2.2)]
structure ShOk (W : World) (base : Nat) (x : Shp) (t : List Nd) : Prop where
  n1 : x.1.2.1 = (lvT t).length
  n2 : x.2.1.2.1 = t.length
  names : W.ownsRow base 9 1 (slR x.1) (lvT t).length (fl encS (nmsL t))
  nodes : W.ownsRow base 41 1 (slR x.2.1) t.length (fl encV (ndsU t))
  set : MU W x.2.2 100 (setU t)
  low : base ≤ x.2.2
theorem ShOk.bl {W W' : World} {base : Nat} {x : Shp} {t : List Nd} (h : ShOk W base x t) (hb : Below W.heap.size W W') : ShOk W' base x t :=
  ⟨h.n1, h.n2, owns_below h.names hb, owns_below h.nodes hb, h.set.bl hb, h.low⟩
theorem load_shape {W : World} {b : Nat} {x y z : Value} (h : Blk W b #[x, y, z] 69) : (loadVar 69 ⟨b, 0, none⟩).run Tryz.prog W = .ok (.agg #[x, y, z]) W := by
  have c0 : W.cell? ⟨b, 0, none⟩ = some x := h.cell 0
  have c1 : W.cell? ⟨b, 1, none⟩ = some y := h.cell 1
  have c2 : W.cell? ⟨b, 2, none⟩ = some z := h.cell 2
  simp [go_sem, c0, c1, c2]
theorem results_cell4 {P : Program} {fn : Func} {p : Tmp} {ty : TypeId} (h : fn.results = #[.cell p ty]) (tmps : Array Value) (w : World) (b : Nat) (v : Value) (hp : tmps.getD p undef = .pointer (some ⟨b, 0, none⟩)) (hv : (loadVar ty ⟨b, 0, none⟩).run P w = .ok v w) :
    (results fn tmps).run P w = .ok v w := by
  have hp2 : tmps[p]?.getD undef = .pointer (some ⟨b, 0, none⟩) := by rw [← hp]; simp
  simp [results, h, hp2, asAddr, hv]
set_option maxRecDepth 100000 in
set_option maxHeartbeats 8000000 in
theorem shape_any (a : Option Addr) (n c : Nat) (t : List Nd) (w : World) (hn : t.length = n) (hA : Rd w a (fl encNd t)) (hS : ∀ v, v < n → (nS t v).size ≤ 9223372036854775807) (hok : TreeOk t) :
    Calls Tryz.prog 89 #[.slice a n c] w fun e w' => ∃ x : Shp, e = .returned (.agg (encSh x).toArray) ∧ ShOk w' w.heap.size x t ∧ Below w.heap.size w w' := by
  have hn63 : n ≤ 63 := by rw [← hn]; exact hok.2.1
  have hn1 : 1 ≤ n := by rw [← hn]; exact hok.1
  have HN := Lib.hid hn
  have HOK := Lib.hid hok
  have HA := Lib.hid hA
  have HS := Lib.hid hS
  have HLV := Lib.hid (fun w' (hb : Below w.heap.size w w') => Leaves_any a n c t w' hn (by omega) (hA.bl hb) hS)
  have HE : Hid (chkE t = 0) := chkE_good hok
  obtain ⟨L, hL⟩ : ∃ L, L = (lvT t).length := ⟨_, rfl⟩
  have HLL := Lib.hid hL
  have HLB : Hid (L ≤ n) := by
    show L ≤ n
    rw [hL, tok_lv hn hok]
    exact Nat.le_trans (List.length_filter_le _ _) (by simp)
  rw [← hL] at HLV
  rw [HE.out] at HLV
  clear hn hA hS hok hL
  have hLn : L ≤ n := HLB.out
  go_enter Tryz.func89, Tryz.ntmps89
  go_upto_region 1 with fail
  have HB1 := Lib.hid (bl_alloc (Below.refl _ w) (.cells #[.slice none 0 0, .slice none 0 0, .map none] 69))
  have HR1 := Lib.hid (Blk.new w #[.slice none 0 0, .slice none 0 0, .map none] 69)
  go_wp2_with (go_at_call 39; refine (HLV.out _ HB1.out).mono ?_; rintro e w2 ⟨v, rfl, ho, hb2⟩; obtain ⟨al, c2, rfl⟩ := owns_sl ho; have HO := Lib.hid ho; have HB2 := Lib.hid (bl_trans HB1.out hb2); have HR2 := Lib.hid (HR1.out.below hb2); clear ho hb2)
  have HRL := Lib.hid (rd_of_owns HO.out)
  obtain ⟨R, hR⟩ : ∃ R, R = w.heap.size := ⟨_, rfl⟩
  rw [← hR] at HR2 ⊢
  have HRE := Lib.hid hR
  clear hR HB1 HR1
  obtain ⟨nm, hnm⟩ : ∃ nm : Nat → List ByteArray, nm = fun k => ((lvT t).take k).map (nS t) := ⟨_, rfl⟩
  have HNM := Lib.hid hnm
  have HLU : Hid (∀ k, k < L → vA (lvT t) k < n ∧ nm (k + 1) = nm k ++ [nS t (vA (lvT t) k)] ∧ (nm k).length = k) := fun k hk => by
    have hkl : k < (lvT t).length := by rw [← HLL.out]; exact hk
    refine ⟨(tok_leaf HN.out HOK.out hkl).1, ?_, ?_⟩
    · rw [hnm]
      show ((lvT t).take (k + 1)).map (nS t) = _
      rw [take_snocV hkl, List.map_append]; rfl
    · rw [hnm]
      show (((lvT t).take k).map (nS t)).length = k
      rw [List.length_map, List.length_take]; omega
  have HN0 : Hid (nm 0 = []) := by show _ = _; rw [hnm]; rfl
  have HNA : Hid (nm L = (lvT t).map (nS t)) := by
    show _ = _
    rw [hnm, HLL.out]
    show ((lvT t).take (lvT t).length).map (nS t) = _
    rw [List.take_length]
  clear hnm
  go_upto_region 3 with fail
  go_wp2_with fail
  go_loopw [21, 7, 5] (fun x _ y wr => ∃ (k cA : Nat) (A : Option Addr), k ≤ L ∧ x = .int .i64 k ∧ y = .slice A k cA ∧ Hid (wr.ownsRow w2.heap.size 9 1 (.slice A k cA) k (fl encS (nm k))) ∧ Hid (Below w2.heap.size w2 wr)) (fun x _ _ _ => L - (intOf x).toNat)
  case atStart => exact ⟨0, 0, none, by omega, rfl, rfl, by rw [HN0.out]; exact World.ownsRow_nil _ _ _ _, Below.refl _ _⟩
  case round =>
    obtain ⟨k, cA, A, hk, rfl, rfl, HV, HBW⟩ := hrel
    by_cases hlt : k < L
    · obtain ⟨hu, hnx, hnl⟩ := HLU.out k hlt
      have HNX := Lib.hid hnx
      have HNL := Lib.hid hnl
      clear hnx hnl
      obtain ⟨bl, ol, rfl, _, hcl⟩ := rdI (HRL.out.bl HBW.out) (by rw [iN_len, ← HLL.out]; omega)
      have c1 := hcl k (by rw [iN_len, ← HLL.out]; exact hlt)
      rw [iN_get] at c1
      clear hcl
      generalize vA (lvT t) k = u at *
      obtain ⟨bn, on, rfl, _, hcn⟩ := rdNd (HA.out.bl (bl_trans HB2.out HBW.out)) (by rw [HN.out]; omega)
      have c2 := (hcn u (by rw [HN.out]; exact hu)).2
      clear hcn
      generalize nS t u = s at *
      have hsz1 : w2.heap.size ≤ (wr.alloc (.cells #[.string s] 9)).heap.size := (bl_alloc HBW.out _).size
      go_wp2_with (at_builtin; refine push_S4 rfl (.tmp 25) (.tmp 31) rfl w2.heap.size (.slice A k cA) (nm k) k HNL.out.symm rfl (HV.out.alloc _) _ _ s rfl (Blk.new _ _ _) (by omega) hsz1 ?_; intro g cap w8 h1 h2 h3 h4; have H81 := Lib.hid h1; have H82 := Lib.hid (bl_grown (bl_alloc HBW.out _) h2 (fun r e => (HV.out.lt r e).1)); clear h1 h2 h3 h4)
      go_roundw
      case rel => exact ⟨k + 1, cap, _, by omega, by go_num, rfl, by rw [HNX.out]; exact H81.out, H82⟩
      case measure => simp [intOf]; omega
    · obtain rfl : k = L := by omega
      have HNK : Hid (srtB (nm k) = nmsL t) := by
        show _ = _
        rw [HNA.out]; rfl
      have hnl : (nm k).length = k := by
        rw [HNA.out, List.length_map, ← HLL.out]
      have HC := Lib.hid (sortRowS_any (nm k) hnl.symm HV.out (by omega))
      rw [HNK.out] at HC
      clear hnl
      go_upto_region 9 with (go_at_call 115; refine HC.out.mono ?_; rintro e w5 ⟨rfl, h1, h2⟩; have H51 := Lib.hid h1; have HB5 := Lib.hid (h2 w2 HBW.out (Nat.le_refl _)); clear h1 h2)
      obtain ⟨i0, hi0, hz0, hz1, hz2⟩ := info_parts info_V
      have hmk := run_make (P := Tryz.prog) w5 37 41 i0 _ Tryz.underlying37 hi0 hz0 .i64 .i64 (n : Int) (n : Int) (by omega) (by omega) (by rw [hz2]; omega) (by omega)
      simp only [hz1, Int.toNat_natCast, Nat.mul_one] at hmk
      have hmm := @run_makeMap Tryz.prog
      clear hi0 hz0 hz1 hz2
      go_upto_region 10 with fail
      obtain ⟨g, hg⟩ : ∃ g, g = w5.heap.size := ⟨_, rfl⟩
      obtain ⟨w6, hw6⟩ : ∃ x, x = ((w5.alloc (.cells (madeCells #[.int .u64 0] n) 41)).alloc (.map #[] 0)).alloc (.cells #[.slice A k cA, .slice (some ⟨w5.heap.size, 0, none⟩) n n, .map (some (w5.heap.size + 1))] 69) := ⟨_, rfl⟩
      have HG : Hid (Blk w6 g (ofF n fun _ => .int .u64 0) 41) := by
        have h := ((Blk.new w5 (madeCells #[.int .u64 0] n) 41).alloc (.map #[] 0)).alloc (.cells #[.slice A k cA, .slice (some ⟨w5.heap.size, 0, none⟩) n n, .map (some (w5.heap.size + 1))] 69)
        rw [← hw6, ← hg, u64s_made4] at h
        exact h
      have HM : Hid (MU w6 (g + 1) 0 []) := by
        have h := (MU.made (w5.alloc (.cells (madeCells #[.int .u64 0] n) 41))).alloc (.cells #[.slice A k cA, .slice (some ⟨w5.heap.size, 0, none⟩) n n, .map (some (w5.heap.size + 1))] 69)
        rw [← hw6, World.size_alloc, ← hg] at h
        exact h
      have HX : Hid (Blk w6 (g + 1 + 1) #[.slice A k cA, .slice (some ⟨g, 0, none⟩) n n, .map (some (g + 1))] 69) := by
        have h := Blk.new ((w5.alloc (.cells (madeCells #[.int .u64 0] n) 41)).alloc (.map #[] 0)) #[.slice A k cA, .slice (some ⟨w5.heap.size, 0, none⟩) n n, .map (some (w5.heap.size + 1))] 69
        rw [← hw6, World.size_alloc, World.size_alloc, ← hg] at h
        exact h
      have HB6 : Hid (Below w5.heap.size w5 w6) := by
        rw [hw6]; exact bl_alloc (bl_alloc (bl_alloc (Below.refl _ _) _) _) _
      have HZ6 : Hid (w6.heap.size = g + 3) := by
        show _ = _
        rw [hw6, hg]; simp
      rw [← hw6, ← hg]
      have HGE := Lib.hid hg
      clear hw6 hg hmk hmm
      have HRN := Lib.hid (rd_of_owns H51.out)
      have HG0 : Hid (w6.grownBy w6 (some g)) := ⟨rfl, rfl, rfl, Nat.le_refl _, fun _ _ _ => rfl⟩
      have HF0 : Hid (Blk w6 g (ofF n fun v => .int .u64 ((if v ∈ (lvT t).take 0 then 2 ^ pl4 t v else 0 : Nat) : Int)) 41) := by
        have h := HG.out
        rwa [show (ofF n fun _ => Value.int .u64 0) = ofF n fun v => .int .u64 ((if v ∈ (lvT t).take 0 then 2 ^ pl4 t v else 0 : Nat) : Int) from ofF_congr fun i _ => by simp] at h
      go_wp2_with fail
      go_loopw [44, 10, 11, 12] (fun x _ _ _ wr => ∃ j : Nat, j ≤ k ∧ x = .int .i64 j ∧ Hid (Blk wr g (ofF n fun v => .int .u64 ((if v ∈ (lvT t).take j then 2 ^ pl4 t v else 0 : Nat) : Int)) 41) ∧ Hid (w6.grownBy wr (some g))) (fun x _ _ _ _ => k - (intOf x).toNat)
      case atStart => exact ⟨0, by omega, rfl, HF0, HG0⟩
      case round =>
        clear HF0 HG0 HG
        obtain ⟨j, hj, rfl, HF, HGR⟩ := hrel
        have hz6 : g + 3 ≤ w6.heap.size := by have := HZ6.out; omega
        have hge : w5.heap.size ≤ g := by have := HGE.out; omega
        by_cases hlt2 : j < k
        · obtain ⟨hu, _, _⟩ := HLU.out j hlt2
          have hleaf := (tok_leaf HN.out HOK.out (show j < (lvT t).length by rw [← HLL.out]; exact hlt2)).2
          have HMEM := Lib.hid (nms_mem HN.out HOK.out hu hleaf)
          have HTK : Hid ((lvT t).take (j + 1) = (lvT t).take j ++ [vA (lvT t) j]) := take_snocV (by rw [← HLL.out]; exact hlt2)
          have hpl := pl4_lt HN.out HOK.out hu hleaf
          rw [← HLL.out] at hpl
          obtain ⟨bl, ol, rfl, _, hcl⟩ := rdI (rd_grown4 (HRL.out.bl HB5.out) HB6.out HGR.out (by omega)) (by rw [iN_len, ← HLL.out]; omega)
          have c1 := hcl j (by rw [iN_len, ← HLL.out]; exact hlt2)
          rw [iN_get] at c1
          clear hcl hleaf
          generalize vA (lvT t) j = u at *
          obtain ⟨bn, on, rfl, _, hcn⟩ := rdNd (rd_grown4 (HA.out.bl (bl_trans HB2.out HB5.out)) HB6.out HGR.out (by omega)) (by rw [HN.out]; omega)
          have c2 := (hcn u (by rw [HN.out]; exact hu)).2
          clear hcn
          have HBS := Lib.hid (bsearch_any A k cA (nmsL t) (nS t u) wr (by rw [nmsL_len, ← HLL.out]) (by omega) (rd_grown4 HRN.out HB6.out HGR.out (by omega)) (nms_pw HN.out HOK.out) HMEM.out)
          obtain ⟨p, hp⟩ : ∃ p, p = pl4 t u := ⟨_, rfl⟩
          rw [← hp] at hpl
          have HPL := Lib.hid hp
          rw [show plN (nmsL t) (nS t u) = p from hp.symm] at HBS
          have hx1 : wr.cell? ⟨g + 1 + 1, 1, none⟩ = some (.slice (some ⟨g, 0, none⟩) n n) := (gr_blk4 HGR.out HX.out (by omega)).cell 1
          have hg1 := HF.out.getF u hu
          have hf1 := HF.out.free u
          obtain ⟨z, hz⟩ : ∃ z, z = 2 ^ p := ⟨_, rfl⟩
          have hpw : IntKind.u64.wrap ((2 : Int) ^ p) = (z : Int) := by
            have h64 : 2 ^ p ≤ 2 ^ 63 := Nat.pow_le_pow_right (by omega) (by omega)
            have hpp : (2 : Int) ^ p = ((2 ^ p : Nat) : Int) := by simp
            rw [hpp, IntKind.wrap_u64, ← hz]
            rw [← hz] at h64
            clear hpp hz
            omega
          have HZP := Lib.hid hz
          clear hz
          generalize nS t u = s at *
          clear hp
          go_upto_region 14 with (go_at_call 116; refine HBS.out.mono ?_; rintro e w7 ⟨rfl, hw7⟩; subst w7)
          have HNW : Hid (∀ q, Blk ((wr.drewN q).setCell ⟨g, u, none⟩ (.int .u64 (z : Int))) g (ofF n fun v => .int .u64 ((if v ∈ (lvT t).take (j + 1) then 2 ^ pl4 t v else 0 : Nat) : Int)) 41) := fun q => by
            have h := (show Blk (wr.drewN q) g _ _ from HF.out).setF u (.int .u64 (z : Int))
            rwa [show (ofF n fun v => if v = u then Value.int .u64 (z : Int) else .int .u64 ((if v ∈ (lvT t).take j then 2 ^ pl4 t v else 0 : Nat) : Int)) = ofF n fun v => .int .u64 ((if v ∈ (lvT t).take (j + 1) then 2 ^ pl4 t v else 0 : Nat) : Int) from ofF_congr fun i _ => by
              rw [HTK.out]
              by_cases e : i = u
              · subst e; simp [HZP.out, HPL.out]
              · simp [e]] at h
          have HGN : Hid (∀ q, w6.grownBy ((wr.drewN q).setCell ⟨g, u, none⟩ (.int .u64 (z : Int))) (some g)) := fun q =>
            ⟨HGR.out.os, HGR.out.tape, HGR.out.output, by simp [World.setCell]; exact HGR.out.size, fun i hi hne => (Below.heap_setCell _ _ _ i (fun e => hne (by rw [e]))).trans (HGR.out.block i hi hne)⟩
          clear HF HGR
          refine wp_quiet_tail_lit 6 (by kernel_rfl) (by kernel_rfl) ?_
          simp only [List.take_succ_cons, List.take_zero, List.drop_succ_cons, List.drop_zero]
          repeat (go_big_quiet_step (fail))
          refine wpQuiet_nil ?_
          intro _ hw'
          obtain ⟨nq, hw''⟩ := hw'
          subst hw''
          try simp only [Act.put, List.setIfInBounds_toArray, List.set_cons_zero, List.set_cons_succ]
          go_wp2_with fail
          exact ⟨⟨j + 1, by omega, by go_num, HNW.out nq, HGN.out nq⟩, by simp [intOf]; omega⟩
        · obtain rfl : j = k := by omega
          have HF2 : Hid (Blk wr g (ofF n fun v => .int .u64 ((upX t (bot4 t) 0 v : Nat) : Int)) 41) := by
            have h := HF.out
            rwa [show (ofF n fun v => Value.int .u64 ((if v ∈ (lvT t).take j then 2 ^ pl4 t v else 0 : Nat) : Int)) = ofF n fun v => .int .u64 ((upX t (bot4 t) 0 v : Nat) : Int) from ofF_congr fun i hi => by
              rw [HLL.out, List.take_length]
              show _ = Value.int .u64 ((bot4 t i : Nat) : Int)
              unfold bot4
              have hm := lv_mem (u := i) HN.out HOK.out
              by_cases q : leafB t i = true
              · rw [if_pos (hm.2 ⟨hi, q⟩), if_pos q]; rfl
              · rw [if_neg (fun e => q (hm.1 e).2), if_neg q]] at h
          clear HF
          have HP := Lib.hid (tok_par HN.out HOK.out)
          have HCLT : Hid (∀ q v, v < n → upX t (bot4 t) q v < 18446744073709551616) := fun q v hv => by
            have h1 := upX_lt (t := t) (b := bot4 t) (m := (lvT t).length) (fun v hv => bot4_lt HN.out HOK.out v (by rw [← HN.out]; exact hv)) q v (by rw [HN.out]; exact hv)
            have h2 : (2 : Nat) ^ (lvT t).length ≤ 2 ^ 63 := Nat.pow_le_pow_right (by omega) (by rw [← HLL.out]; omega)
            omega
          go_wp2_with fail
          go_loopw [13] (fun x wr => ∃ v : Nat, v ≤ n - 1 ∧ x = .int .i64 v ∧ Hid (Blk wr g (ofF n fun u => .int .u64 ((upX t (bot4 t) (n - 1 - v) u : Nat) : Int)) 41) ∧ Hid (w6.grownBy wr (some g))) (fun x _ => (intOf x).toNat)
          case atStart => exact ⟨n - 1, Nat.le_refl _, by congr 1; omega, by rw [Nat.sub_self]; exact HF2.out, HGR⟩
          case round =>
            clear HF2 HGR
            obtain ⟨v, hv, rfl, HF, HGR⟩ := hrel
            by_cases hv0 : 0 < v
            · obtain ⟨p0, p1⟩ := HP.out v hv0 (by omega)
              obtain ⟨p, hp⟩ : ∃ p : Nat, nP t v = (p : Int) := ⟨(nP t v).toNat, by omega⟩
              obtain ⟨bn, on, rfl, _, hcn⟩ := rdNd (rd_grown4 (HA.out.bl (bl_trans HB2.out HB5.out)) HB6.out HGR.out (by omega)) (by rw [HN.out]; omega)
              have c1 := (hcn v (by rw [HN.out]; omega)).1
              rw [hp] at c1
              clear hcn
              have hx1 : wr.cell? ⟨g + 1 + 1, 1, none⟩ = some (.slice (some ⟨g, 0, none⟩) n n) := (gr_blk4 HGR.out HX.out (by omega)).cell 1
              obtain ⟨F, hFd⟩ : ∃ F : Nat → Nat, F = fun u => upX t (bot4 t) (n - 1 - v) u := ⟨_, rfl⟩
              have HFB : Hid (Blk wr g (ofF n fun u => .int .u64 ((F u : Nat) : Int)) 41) := by
                show Blk _ _ _ _
                rw [hFd]; exact HF.out
              have HFN : Hid (∀ u, u < n → upX t (bot4 t) (n - 1 - (v - 1)) u = if u = p then F p ||| F v else F u) := fun u hu => by
                rw [show n - 1 - (v - 1) = (n - 1 - v) + 1 by omega, hFd]
                show (if nP t (t.length - 1 - (n - 1 - v)) = (u : Int) then _ else _) = _
                rw [HN.out, show n - 1 - (n - 1 - v) = v by omega, hp]
                by_cases e : u = p
                · subst e; rw [if_pos rfl, if_pos rfl]
                · rw [if_neg (fun e2 => e (by omega)), if_neg e]
              have hb1 := HCLT.out (n - 1 - v) p (by omega)
              have hb2 := HCLT.out (n - 1 - v) v (by omega)
              rw [show upX t (bot4 t) (n - 1 - v) p = F p by rw [hFd]] at hb1
              rw [show upX t (bot4 t) (n - 1 - v) v = F v by rw [hFd]] at hb2
              have hg1 := HFB.out.getF p (by omega)
              have hg2 := HFB.out.getF v (by omega)
              have hf1 := HFB.out.free p
              have hor := bits_or hb1 hb2
              have HNW : Hid (∀ q, Blk ((wr.drewN q).setCell ⟨g, p, none⟩ (.int .u64 ((F p ||| F v : Nat) : Int))) g (ofF n fun u => .int .u64 ((upX t (bot4 t) (n - 1 - (v - 1)) u : Nat) : Int)) 41) := fun q => by
                have h := (show Blk (wr.drewN q) g _ _ from HFB.out).setF p (.int .u64 ((F p ||| F v : Nat) : Int))
                rwa [show (ofF n fun u => if u = p then Value.int .u64 ((F p ||| F v : Nat) : Int) else .int .u64 ((F u : Nat) : Int)) = ofF n fun u => .int .u64 ((upX t (bot4 t) (n - 1 - (v - 1)) u : Nat) : Int) from ofF_congr fun i hi => by
                  rw [HFN.out i hi]
                  by_cases e : i = p
                  · subst e; rw [if_pos rfl, if_pos rfl]
                  · rw [if_neg e, if_neg e]] at h
              have HGN : Hid (∀ q, w6.grownBy ((wr.drewN q).setCell ⟨g, p, none⟩ (.int .u64 ((F p ||| F v : Nat) : Int))) (some g)) := fun q =>
                ⟨HGR.out.os, HGR.out.tape, HGR.out.output, by simp [World.setCell]; exact HGR.out.size, fun i hi hne => (Below.heap_setCell _ _ _ i (fun e => hne (by rw [e]))).trans (HGR.out.block i hi hne)⟩
              have hpv : p < v := by omega
              clear HF HGR HFB HFN hFd hb1 hb2 hp p0 p1
              generalize F p ||| F v = z at *
              generalize F p = z1 at *
              generalize F v = z2 at *
              go_upto_region 19 with fail
              refine wp_quiet_tail_lit 16 (by kernel_rfl) (by kernel_rfl) ?_
              simp only [List.take_succ_cons, List.take_zero, List.drop_succ_cons, List.drop_zero]
              repeat (go_big_quiet_step (fail))
              refine wpQuiet_nil ?_
              intro _ hw'
              obtain ⟨nq, hw''⟩ := hw'
              subst hw''
              try simp only [Act.put, List.setIfInBounds_toArray, List.set_cons_zero, List.set_cons_succ]
              go_wp2_with fail
              exact ⟨⟨v - 1, by omega, by congr 1; omega, HNW.out nq, HGN.out nq⟩, by simp [intOf]; omega⟩
            · obtain rfl : v = 0 := by omega
              have HF2 : Hid (Blk wr g (ofF n fun u => .int .u64 ((cl4 t u : Nat) : Int)) 41) := by
                show Blk _ _ _ _
                unfold cl4
                rw [HN.out]; exact HF.out
              have HOW := Lib.hid (owns_ofF (base := w.heap.size) HF2.out (by have := HB2.out.size; have := HB5.out.size; omega) (by omega))
              have HND : Hid ((List.range n).map (cl4 t) = ndsU t) := by show _ = _; unfold ndsU; rw [HN.out]
              rw [HND.out] at HOW
              have HMR := Lib.hid (HM.out.kept HGR.out (fun e => by have := Option.some.inj e; omega))
              have HPU := Lib.hid (putU_any (g + 1) 0 [] (some ⟨g, 0, none⟩) n n (ndsU t) wr HMR.out (by rw [← HND.out]; simp) (by omega) (by omega) (rd_of_owns HOW.out) (fun i hi => by
                rw [← HND.out]
                have h := HCLT.out (n - 1) i hi
                have e : vA ((List.range n).map (cl4 t)) i = cl4 t i := by simp [vA, hi]
                rw [e]
                unfold cl4
                rw [HN.out]; exact h))
              have HXR := Lib.hid (gr_blk4 HGR.out HX.out (by omega))
              have hx1 : wr.cell? ⟨g + 1 + 1, 1, none⟩ = some (.slice (some ⟨g, 0, none⟩) n n) := HXR.out.cell 1
              have hx2 : wr.cell? ⟨g + 1 + 1, 2, none⟩ = some (.map (some (g + 1))) := HXR.out.cell 2
              clear HF HF2
              go_upto_region 21 with (go_at_call 69; refine HPU.out.mono ?_; rintro e w8 ⟨rfl, h1, h2⟩; have HM8 := Lib.hid h1; have HG8 := Lib.hid h2; clear h1 h2)
              clear hx1 hx2
              have HX8 := Lib.hid (HXR.out.grown HG8.out (fun e => by have := Option.some.inj e; omega))
              have hx0 : w8.cell? ⟨g + 1 + 1, 0, none⟩ = some (.slice A j cA) := HX8.out.cell 0
              have hx1 : w8.cell? ⟨g + 1 + 1, 1, none⟩ = some (.slice (some ⟨g, 0, none⟩) n n) := HX8.out.cell 1
              have hx2 : w8.cell? ⟨g + 1 + 1, 2, none⟩ = some (.map (some (g + 1))) := HX8.out.cell 2
              have hRlt : R < w5.heap.size := Nat.lt_of_lt_of_le HR2.out.lt HB5.out.size
              have HR8 : Hid (Blk w8 R #[.slice none 0 0, .slice none 0 0, .map none] 69) :=
                (gr_blk4 HGR.out ((HR2.out.below HB5.out).below HB6.out) (by omega)).grown HG8.out (fun e => by have := Option.some.inj e; omega)
              have hr0 : w8.cell? ⟨R, 0, none⟩ = some (.slice none 0 0) := HR8.out.cell 0
              have hr1 : w8.cell? ⟨R, 1, none⟩ = some (.slice none 0 0) := HR8.out.cell 1
              have hr2 : w8.cell? ⟨R, 2, none⟩ = some (.map none) := HR8.out.cell 2
              have hf0 := HR8.out.free 0
              have hf1 := HR8.out.free 1
              have hf2 := HR8.out.free 2
              have HR9 : Hid (Blk (((w8.setCell ⟨R, 0, none⟩ (.slice A j cA)).setCell ⟨R, 1, none⟩ (.slice (some ⟨g, 0, none⟩) n n)).setCell ⟨R, 2, none⟩ (.map (some (g + 1)))) R #[.slice A j cA, .slice (some ⟨g, 0, none⟩) n n, .map (some (g + 1))] 69) :=
                ((HR8.out.set 0 _).set 1 _).set 2 _
              have hlow : w.heap.size ≤ w5.heap.size := Nat.le_trans HB2.out.size HB5.out.size
              have HB8 : Hid (Below w.heap.size w w8) := bl_grown (bl_grown (bl_trans (bl_trans HB2.out HB5.out) HB6.out) HGR.out (fun r e => by have := Option.some.inj e; omega)) HG8.out (fun r e => by have := Option.some.inj e; omega)
              have HB9 : Hid (Below w.heap.size w (((w8.setCell ⟨R, 0, none⟩ (.slice A j cA)).setCell ⟨R, 1, none⟩ (.slice (some ⟨g, 0, none⟩) n n)).setCell ⟨R, 2, none⟩ (.map (some (g + 1))))) := by
                have hRe := HRE.out
                exact bl_set (bl_set (bl_set HB8.out _ _ _ _ (by omega)) _ _ _ _ (by omega)) _ _ _ _ (by omega)
              have hRA : ∀ b o q, A = some ⟨b, o, q⟩ → w2.heap.size ≤ b ∧ b < w5.heap.size := fun b o q e => by
                have h := H51.out
                subst e
                exact h.lt b rfl
              have HRw2 : Hid (R < w2.heap.size) := HR2.out.lt
              have HNAM : Hid (w8.ownsRow w.heap.size 9 1 (.slice A j cA) j (fl encS (nmsL t))) := by
                have h := owns_base4 H51.out HB2.out.size
                have h1 := owns_below h HB6.out
                have hne : ∀ q, w5.heap.size ≤ q → (Value.slice A j cA).ownBlock ≠ some q := fun q hq e => by
                  have := (H51.out.lt q e).2; omega
                exact (h1.kept HGR.out (.inr (hne g (by omega)))).kept HG8.out (.inr (hne (g + 1) (by omega)))
              have HNOD : Hid (w8.ownsRow w.heap.size 41 1 (.slice (some ⟨g, 0, none⟩) n n) n (fl encV (ndsU t))) :=
                HOW.out.kept HG8.out (.inr (fun e => by have := Option.some.inj (show some g = some (g + 1) from e); omega))
              have hRne : ∀ {v : Value} {e n : Nat} {xs : List Value}, w8.ownsRow w.heap.size e 1 v n xs → e ≠ 69 → v.ownBlock ≠ some R := fun {v e n xs} h he e2 => by
                rcases h.2 with ⟨rfl, _⟩ | ⟨g', cap', cur, rfl, _, hgb, _⟩
                · cases e2
                · have : g' = R := Option.some.inj e2
                  subst this
                  have := HR8.out
                  unfold Blk at this
                  rw [this] at hgb
                  cases hgb
                  exact he rfl
              go_wp2_with fail
              refine bodyPost_ret (results_cell4 rfl _ _ R _ rfl (load_shape HR9.out)) rfl ?_
              refine ⟨((A, j, cA), (some ⟨g, 0, none⟩, n, n), g + 1), rfl, ⟨HLL.out, HN.out.symm, ?_, ?_, ?_, ?_⟩, HB9.out⟩
              · have h := HNAM.out
                rw [← HLL.out]
                exact ownsRow_setCell_other (a := ⟨R, 2, none⟩) (ownsRow_setCell_other (a := ⟨R, 1, none⟩) (ownsRow_setCell_other (a := ⟨R, 0, none⟩) h (hRne h (by decide)) _) (hRne h (by decide)) _) (hRne h (by decide)) _
              · have h := HNOD.out
                rw [HN.out]
                exact ownsRow_setCell_other (a := ⟨R, 2, none⟩) (ownsRow_setCell_other (a := ⟨R, 1, none⟩) (ownsRow_setCell_other (a := ⟨R, 0, none⟩) h (hRne h (by decide)) _) (hRne h (by decide)) _) (hRne h (by decide)) _
              · exact (((HM8.out.mono (by omega)).set _ _).set _ _).set _ _
              · show w.heap.size ≤ g + 1
                omega
end Go.Proofs.YtfgkjofdgohacaaGreatDoor
namespace Go.Proofs.YtfgkjofdgohacaaGreatDoor
open Go Go.RowKit Go.Shelf Go.Maps
/-- Rows of different types are different. -/
theorem owns_kept_ty {W W' : World} {base e k n base2 e2 k2 n2 : Nat} {v v2 : Value} {xs xs2 : List Value} (h : W.ownsRow base e k v n xs) (h2 : W.ownsRow base2 e2 k2 v2 n2 xs2) (he : e ≠ e2) (hg : W.grownBy W' v2.ownBlock) : W'.ownsRow base e k v n xs := by
  refine h.kept hg ?_
  rcases h.2 with ⟨rfl, _⟩ | ⟨g, cap, cur, rfl, _, hgb, _⟩
  · exact .inl rfl
  · refine .inr fun e' => ?_
    rcases h2.2 with ⟨rfl, _⟩ | ⟨g2, cap2, cur2, rfl, _, hgb2, _⟩
    · cases e'
    · have : g = g2 := Option.some.inj e'
      subst this
      rw [hgb] at hgb2
      cases hgb2
      exact he rfl
theorem MU.kept_row {W W' : World} {b m base2 e2 k2 n2 : Nat} {S : List Nat} {v2 : Value} {xs2 : List Value} (h : MU W b m S) (h2 : W.ownsRow base2 e2 k2 v2 n2 xs2) (hg : W.grownBy W' v2.ownBlock) : MU W' b m S := by
  refine h.kept hg fun e => ?_
  obtain ⟨es, c, hb⟩ := h.blk
  rcases h2.2 with ⟨rfl, _⟩ | ⟨g2, cap2, cur2, rfl, _, hgb2, _⟩
  · cases e
  · have : b = g2 := Option.some.inj e
    subst this
    rw [hb] at hgb2
    cases hgb2
theorem ShOk.kept_row {W W' : World} {base base2 k2 n2 : Nat} {x : Shp} {t : List Nd} {v2 : Value} {xs2 : List Value} (h : ShOk W base x t) (h2 : W.ownsRow base2 69 k2 v2 n2 xs2) (hg : W.grownBy W' v2.ownBlock) : ShOk W' base x t :=
  ⟨h.n1, h.n2, owns_kept_ty h.names h2 (by decide) hg, owns_kept_ty h.nodes h2 (by decide) hg, h.set.kept_row h2 hg, h.low⟩
theorem ShOk.base {W : World} {base base' : Nat} {x : Shp} {t : List Nd} (h : ShOk W base x t) (hb : base' ≤ base) : ShOk W base' x t :=
  ⟨h.n1, h.n2, owns_base4 h.names hb, owns_base4 h.nodes hb, h.set, Nat.le_trans hb h.low⟩
theorem rd_of_blk4 {w : World} {B : Nat} {cs : List Value} {t : TypeId} (h : Blk w B cs.toArray t) : Rd w (some ⟨B, 0, none⟩) cs := by
  intro h0
  refine ⟨B, 0, rfl, h.lt, fun i hi => ?_⟩
  rw [Nat.zero_add, h.cell i]
  simp [hi]
set_option maxHeartbeats 1000000 in
/-- What kind of block: cells of a type, or a map. -/
def kind (w : World) (k : Nat) : Option (Option TypeId) := match w.heap[k]? with
  | some (.cells _ t _) => some (some t)
  | some (.map _ _) => some none
  | _ => none
theorem encSh_len (x : Shp) : (encSh x).length = 3 := rfl
theorem encSh_one (x : Shp) : ∀ u ∈ encSh x, u.oneCell' = true := by
  simp only [encSh, List.mem_cons, List.not_mem_nil, or_false]
  rintro u (rfl | rfl | rfl) <;> rfl
theorem info_Sh : (Tryz.prog.info? 69).map (fun i => (i.zero, i.size, i.bytes)) = some (some (.agg #[.slice none 0 0, .slice none 0 0, .map none]), 3, 56) := by kernel_rfl
def shA (l : List Shp) (i : Nat) : Shp := l.getD i ((none, 0, 0), (none, 0, 0), 0)
theorem shA_snoc (l : List Shp) (x : Shp) (i : Nat) : shA (l ++ [x]) i = if i < l.length then shA l i else if i = l.length then x else ((none, 0, 0), (none, 0, 0), 0) := by
  unfold shA
  by_cases h : i < l.length
  · rw [if_pos h, List.getD_eq_getElem?_getD, List.getD_eq_getElem?_getD, List.getElem?_append_left h]
  · rw [if_neg h]
    by_cases e : i = l.length
    · subst e; simp
    · rw [if_neg e, List.getD_eq_getElem?_getD, List.getElem?_eq_none (by simp; omega)]; rfl
/-- Trees that are read from a row. -/
structure TrsIn (w : World) (a : Option Addr) (n : Nat) (T : Nat → List Nd) (rs : List Rw) : Prop where
  len : rs.length = n
  rd : Rd w a (fl encR rs)
  tl : ∀ i, i < n → rN rs i = (T i).length ∧ (T i).length ≤ 1152921504606846976
  tr : ∀ i, i < n → Rd w (rA rs i) (fl encNd (T i))
  sz : ∀ i, i < n → ∀ v, v < (T i).length → (nS (T i) v).size ≤ 9223372036854775807
theorem TrsIn.bl {w w' : World} {a : Option Addr} {n : Nat} {T : Nat → List Nd} {rs : List Rw} (h : TrsIn w a n T rs) (hb : Below w.heap.size w w') : TrsIn w' a n T rs :=
  ⟨h.len, h.rd.bl hb, h.tl, fun i hi => (h.tr i hi).bl hb, h.sz⟩
/-- Shapes of trees in a row of the call's own. -/
structure ShsOk (W : World) (base : Nat) (v : Value) (n : Nat) (T : Nat → List Nd) (xs : List Shp) : Prop where
  len : xs.length = n
  own : W.ownsRow base 69 3 v n (fl encSh xs)
  ok : ∀ i, i < n → ShOk W base (shA xs i) (T i)
theorem ShsOk.bl {W W' : World} {base n : Nat} {v : Value} {T : Nat → List Nd} {xs : List Shp} (h : ShsOk W base v n T xs) (hb : Below W.heap.size W W') : ShsOk W' base v n T xs :=
  ⟨h.len, owns_below h.own hb, fun i hi => (h.ok i hi).bl hb⟩
theorem ShsOk.nil (W : World) (base : Nat) (T : Nat → List Nd) : ShsOk W base (.slice none 0 0) 0 T [] :=
  ⟨rfl, World.ownsRow_nil _ _ _ _, fun i hi => absurd hi (by omega)⟩
/-- The error of trees. -/
def shE (n : Nat) (T : Nat → List Nd) : Int := if ∀ i, i < n → TreeOk (T i) then 0 else 16
theorem shE_ok {n : Nat} {T : Nat → List Nd} (h : ∀ i, i < n → TreeOk (T i)) : shE n T = 0 := if_pos h
theorem shE_bad {n k : Nat} {T : Nat → List Nd} (hk : k < n) (h : ¬ TreeOk (T k)) : shE n T = 16 := if_neg fun h2 => h (h2 k hk)
set_option maxRecDepth 100000 in
set_option maxHeartbeats 4000000 in
theorem shapes_any (a : Option Addr) (n c : Nat) (T : Nat → List Nd) (rs : List Rw) (w : World) (hn : n ≤ 1048575) (h : TrsIn w a n T rs) :
    Calls Tryz.prog 52 #[.slice a n c] w fun e w' => Below w.heap.size w w' ∧ (shE n T ≠ 0 ∧ e = .returned (.tuple #[.slice none 0 0, .int .i64 (shE n T)]) ∨ shE n T = 0 ∧ ∃ A c' xs, e = .returned (.tuple #[.slice A n c', .int .i64 (shE n T)]) ∧ ShsOk w' w.heap.size (.slice A n c') n T xs) := by
  have HT := Lib.hid h
  have HB0 := Lib.hid (Below.refl w.heap.size w)
  clear h
  go_enter Tryz.func52, Tryz.ntmps52
  go_upto_region 2 with fail
  go_wp2_with fail
  go_loopw [10, 4] (fun x y wr => ∃ (k cA : Nat) (A : Option Addr) (xs : List Shp), k ≤ n ∧ x = .int .i64 k ∧ y = .slice A k cA ∧ Hid (∀ i, i < k → TreeOk (T i)) ∧ Hid (ShsOk wr w.heap.size (.slice A k cA) k T xs) ∧ Hid (Below w.heap.size w wr)) (fun x _ _ => n - (intOf x).toNat)
  case atStart => exact ⟨0, 0, none, [], by omega, rfl, rfl, fun i hi => absurd hi (by omega), ShsOk.nil _ _ _, HB0⟩
  case round =>
    clear HB0
    obtain ⟨k, cA, A, xs, hk, rfl, rfl, HOK, HX, HB⟩ := hrel
    by_cases hlt : k < n
    · obtain ⟨b, o, rfl, _, hc⟩ := rdR (HT.out.bl HB.out).rd (by rw [HT.out.len]; omega)
      have c1 := hc k (by rw [HT.out.len]; exact hlt)
      obtain ⟨hl1, hl2⟩ := HT.out.tl k hlt
      rw [hl1] at c1
      clear hc hl1
      have HR := Lib.hid ((HT.out.bl HB.out).tr k hlt)
      have HS := Lib.hid (HT.out.sz k hlt)
      obtain ⟨t, ht⟩ : ∃ t, t = T k := ⟨_, rfl⟩
      rw [← ht] at c1 HR HS hl2
      have HTE := Lib.hid ht
      clear ht
      generalize rA rs k = aa at *
      generalize rC rs k = cc at *
      have HCK := Lib.hid (fun w' (hb : Below wr.heap.size wr w') => check_any aa t.length cc t w' rfl hl2 (HR.out.bl hb) HS.out)
      by_cases hok : TreeOk t
      · have HOKT := Lib.hid hok
        rw [chkE_good hok] at HCK
        clear hok
        go_upto_region 6 with (go_at_call 36; refine (HCK.out _ (Below.refl _ _)).mono ?_; rintro e w2 ⟨rfl, hb2⟩; have HB2 := Lib.hid hb2; clear hb2)
        have HSH := Lib.hid (shape_any aa t.length cc t w2 rfl (HR.out.bl HB2.out) HS.out HOKT.out)
        go_wp2_with first | fail | (go_at_call 89; refine HSH.out.mono ?_; rintro e w3 ⟨⟨⟨xa, xn, xc⟩, ⟨ya, yn, yc⟩, xm⟩, rfl, hx, hb3⟩; have HX3 := Lib.hid hx; have HB3 := Lib.hid hb3; clear hx hb3; rw [show (encSh ((xa, xn, xc), (ya, yn, yc), xm)).toArray = #[.slice xa xn xc, .slice ya yn yc, .map (some xm)] from rfl]) | (at_builtin; refine wpList_pushs (enc := encSh) rfl encSh_len (by decide) encSh_one Tryz.underlying79 info_Sh rfl (.tmp 19) (.tmp 22) rfl (.slice A k cA) xs k HX.out.len.symm rfl (owns_below HX.out.own (bl_alloc (bl_trans HB2.out HB3.out) _)) (some ⟨w3.heap.size, 0, none⟩) 1 1 [((xa, xn, xc), (ya, yn, yc), xm)] rfl rfl (rd_of_blk4 (cs := encSh ((xa, xn, xc), (ya, yn, yc), xm)) (Blk.new w3 _ 69)) (fun e => by cases e) (by omega) (by decide) (by rw [World.size_alloc]; exact Nat.le_succ_of_le (Nat.le_trans HB.out.size (Nat.le_trans HB2.out.size HB3.out.size))) ?_; intro v9 w9 h91 h92 h93; have H91 := Lib.hid h91; have H92 := Lib.hid h92; clear h91 h92 h93)
        obtain ⟨A9, c9, rfl⟩ := owns_sl H91.out
        have HA3 : Hid (w3.ownsRow w.heap.size 69 3 (.slice A k cA) k (fl encSh xs)) := owns_below HX.out.own (bl_trans HB2.out HB3.out)
        have HA4 := Lib.hid (owns_below HA3.out (bl_alloc (Below.refl _ w3) (.cells #[.slice xa xn xc, .slice ya yn yc, .map (some xm)] 69)))
        refine ⟨⟨k + 1, c9, A9, xs ++ [((xa, xn, xc), (ya, yn, yc), xm)], by omega, by go_num, rfl, fun i hi => ?_, ⟨by simp [HX.out.len], H91.out, fun i hi => ?_⟩, ?_⟩, by simp [intOf]; omega⟩
        · by_cases e : i < k
          · exact HOK.out i e
          · obtain rfl : i = k := by omega
            rw [← HTE.out]; exact HOKT.out
        · rw [shA_snoc, HX.out.len]
          by_cases e : i < k
          · rw [if_pos e]
            exact (((HX.out.ok i e).bl (bl_trans HB2.out HB3.out)).bl (bl_alloc (Below.refl _ w3) _)).kept_row HA4.out H92.out
          · obtain rfl : i = k := by omega
            rw [if_neg e, if_pos rfl, ← HTE.out]
            exact ((HX3.out.base (Nat.le_trans HB.out.size HB2.out.size)).bl (bl_alloc (Below.refl _ w3) _)).kept_row HA4.out H92.out
        · exact bl_grown (bl_alloc (bl_trans (bl_trans HB.out HB2.out) HB3.out) _) H92.out (fun r e => (HX.out.own.lt r e).1)
      · have hE := chkE_bad hok
        rw [hE] at HCK
        have HE : Hid (shE n T = 16) := shE_bad hlt (by rw [← HTE.out]; exact hok)
        clear hok hE
        go_wp2_with (go_at_call 36; refine (HCK.out _ (Below.refl _ _)).mono ?_; rintro e w2 ⟨rfl, hb2⟩; have HB2 := Lib.hid hb2; clear hb2)
        go_ret2
        exact ⟨bl_trans HB.out HB2.out, .inl ⟨by rw [HE.out]; decide, by rw [HE.out]; rfl⟩⟩
    · obtain rfl : k = n := by omega
      have HE : Hid (shE k T = 0) := shE_ok HOK.out
      go_wp2_with fail
      go_ret2
      exact ⟨HB.out, .inr ⟨HE.out, A, cA, xs, by rw [HE.out]; rfl, HX.out⟩⟩
end Go.Proofs.YtfgkjofdgohacaaGreatDoor
