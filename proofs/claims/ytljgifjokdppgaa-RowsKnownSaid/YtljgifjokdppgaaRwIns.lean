/-
  Walk of slices.Insert over rows.
  No condition but sizes.
-/
import Derived.Test.YtljgifjokdppgaaRwDel
import Derived.Lib.AppendZeros
import Derived.Lib.Overlaps
namespace Go.Proofs.Ytljgifjokdppgaa
open Go Go.RowKit

theorem own_of_bk {w : World} {b n cap size : Nat} {e : TypeId} {cs xs : List Value} (h : Bk w b e cs) (hn : n ≤ cap) (hc : cap ≤ maxLen) (hl : cs.length = cap * size) (ht : cs.take (n * size) = xs) :
    w.ownsRow 0 e size (.slice (some ⟨b, 0, none⟩) n cap) n xs := by
  refine ⟨?_, .inr ⟨b, cap, cs.toArray, rfl, Nat.zero_le _, h, hn, hc, by simpa using hl, by simpa using ht⟩⟩
  rw [← ht, List.length_take, hl]
  have : n * size ≤ cap * size := Nat.mul_le_mul_right _ hn
  omega
theorem bk_of_own {w : World} {b n cap size : Nat} {e : TypeId} {xs : List Value} (h : w.ownsRow 0 e size (.slice (some ⟨b, 0, none⟩) n cap) n xs) :
    ∃ cs, Bk w b e cs ∧ n ≤ cap ∧ cap ≤ maxLen ∧ cs.length = cap * size ∧ cs.take (n * size) = xs := by
  rcases h.2 with ⟨h', _⟩ | ⟨g, cap', cur, h', hb, hg, hnc, hcm, hcs, htake⟩
  · simp at h'
  · simp only [Value.slice.injEq, Option.some.injEq, Addr.mk.injEq, and_true, true_and] at h'
    obtain ⟨rfl, rfl⟩ := h'
    exact ⟨cur.toList, by simpa [Bk] using hg, hnc, hcm, by simpa using hcs, htake⟩

def InsRet (lv : Value) (g : List GRow) (i : Nat) (x : List Value) (w : World) (e : Ending) (w' : World) : Prop :=
  ∃ b cap, e = .returned (.slice (some ⟨b, 0, none⟩) (g.length + 1) cap) ∧ w'.ownsRow 0 40 2 (.slice (some ⟨b, 0, none⟩) (g.length + 1) cap) (g.length + 1) (flatR (g.take i) ++ x ++ flatR (g.drop i)) ∧
    Fr w w' (fun j => lv.ownBlock = some j) ∧ (lv.ownBlock = some b ∨ w.heap.size ≤ b)

set_option maxRecDepth 100000 in
set_option maxHeartbeats 400000 in
theorem insert_end (lv : Value) (g : List GRow) (k : Int) (ac : Option Addr) (nc cc B : Nat) (w : World) (h : RL w lv g) (hB : Bk w B 40 [.int .i64 k, .slice ac nc cc]) (hlen : g.length ≤ 1000000) :
    Calls Try.prog 33 #[lv, .int .i64 g.length, .slice (some ⟨B, 0, none⟩) 1 1] w (InsRet lv g g.length [.int .i64 k, .slice ac nc cc] w) := by
  obtain ⟨i0, hinf, hz0, hz1, hz2⟩ := info_parts Try.infoR
  obtain ⟨a, cap, rfl⟩ := h.shape2
  have hcase : cap = g.length ∨ ¬ cap = g.length := by omega
  have H := Lib.hid h
  have HB := Lib.hid hB
  clear h hB
  rcases hcase with rfl | hcase
  all_goals
   go_enter Try.func33, Try.ntmps33
   go_wp2_with (at_builtin; refine wpList_append_lies _ rfl _ _ _ rfl 0 40 i0 _ 2 32 Try.underlying37 hinf hz0 hz1 hz2 rfl (by omega) _ g.length (flatR g) rfl H.out.own ⟨B, 0, none⟩ 1 1 [.int .i64 k, .slice ac nc cc] rfl rfl ?c2 ?c3 (by omega) ?c4 ?c5 (Nat.zero_le _) w.heap.size rfl ?_)
   case c2 => exact World.news_of_block HB.out
   case c3 => intro u hu; simp at hu; rcases hu with rfl | rfl <;> rfl
   case c4 => unfold maxLen; omega
   case c5 => omega
   intro b2 cap2 w3 ho hgr hat _
   have Ho := Lib.hid ho
   have Hgr := Lib.hid hgr
   have Hat := Lib.hid hat
   clear ho hgr hat
   go_wp2_with fail
   go_ret
   refine ⟨b2, cap2, rfl, ?_, (Fr.refl w _).grown Hgr.out fun j hj _ => hj, ?_⟩
   · rw [List.take_of_length_le (Nat.le_refl _), List.drop_of_length_le (Nat.le_refl _)]
     simpa [flatR] using Ho.out
   · rcases Hat.out with h | h
     · exact .inl h
     · exact .inr (by omega)

set_option maxRecDepth 100000 in
set_option maxHeartbeats 400000 in
theorem insert_grow (b cap : Nat) (g : List GRow) (i : Nat) (hi : i < g.length) (hc : cap ≤ g.length) (hc2 : g.length ≤ cap) (k : Int) (ac : Option Addr) (nc cc B : Nat) (w : World) (h : RL w (.slice (some ⟨b, 0, none⟩) g.length cap) g)
    (hB : Bk w B 40 [.int .i64 k, .slice ac nc cc]) (hlen : g.length ≤ 1000000) :
    Calls Try.prog 33 #[.slice (some ⟨b, 0, none⟩) g.length cap, .int .i64 i, .slice (some ⟨B, 0, none⟩) 1 1] w (InsRet (.slice (some ⟨b, 0, none⟩) g.length cap) g i [.int .i64 k, .slice ac nc cc] w) := by
  obtain ⟨i0, hinf, hz0, hz1, hz2⟩ := info_parts Try.infoR
  have hcell : ∀ j u, (flatR (g.take i))[j]? = some u → w.cell? ((⟨b, 0, none⟩ : Addr).add j) = some u := by
    intro j u hu
    have := (own_take h.own (show i ≤ g.length by omega)).cells (g := b) rfl j u
    rw [flatR_take] at this
    exact this hu
  obtain ⟨c2, w1, rest, hrun, hbk, hge, hmx, hsz, hfr⟩ := run_append_zeros (P := Try.prog) (w := w) 37 3 37 40 i0 _ .i64 Try.underlying37 Try.underlying3 hinf hz0 ⟨b, 0, none⟩ i cap (flatR (g.take i)) (by rw [length_flatR, hz1, List.length_take]; omega) hcell (g.length + 1 - i) (by omega) (by omega) (by omega) (by omega) (by rw [hz2]; omega) (by omega) ((g.length : Int) + 1 - i) (by omega)
  have e1 : i + (g.length + 1 - i) = g.length + 1 := by omega
  rw [e1] at hrun hge
  have H := Lib.hid h
  have HB := Lib.hid hB
  have Hrun := Lib.hid hrun
  have Hbk := Lib.hid hbk
  have Hsz := Lib.hid (hsz (by rw [hz1]; rfl))
  have Hfr := Lib.hid hfr
  have hne : ((i : Int) == (g.length : Int)) = false := by rw [beq_eq_false_iff_ne]; omega
  have hgt : (cap : Int) < (g.length : Int) + 1 := by omega
  clear h hB hrun hbk hsz hfr hcell e1
  go_enter Try.func33, Try.ntmps33
  have hcells : ∀ j u, [Value.int .i64 k, .slice ac nc cc][j]? = some u → w1.cell? ((⟨B, 0, none⟩ : Addr).add j) = some u :=
    fun j u hu => Hfr.out.cell (World.news_of_block HB.out j u hu) fun h => h
  have hone : ∀ u ∈ [Value.int .i64 k, .slice ac nc cc], u.oneCell' = true := by intro u hu; simp at hu; rcases hu with rfl | rfl <;> rfl
  have hsz := Hsz.out
  rw [hz1] at hsz
  obtain ⟨w2, hr2, hb2, hg2⟩ := run_copy_bk (P := Try.prog) (w := w1) 37 37 3 40 i0 Try.underlying37 hinf w.heap.size (i * 2) (g.length + 1 - i) (c2 - i) ⟨B, 0, none⟩ 1 1 1 Hbk.out [.int .i64 k, .slice ac nc cc]
    (by simp only [Nat.min_def]; split <;> omega) (by rw [hz1]; rfl) hcells (by rw [hsz]; simp; omega) hone
  have hlw : b < w.heap.size := by have := (World.ownsRow.lt H.out.own b rfl).2; exact this
  have hfr2 : Fr w w2.drew Nil := (Hfr.out.grown hg2 fun j hj hlt => by cases hj; omega).drew
  have hcells2 : ∀ j u, (flatR (g.drop i))[j]? = some u → w2.drew.cell? ((⟨b, i * 2, none⟩ : Addr).add j) = some u := by
    intro j u hu
    refine hfr2.cell ?_ fun h => h
    have hjl := (List.getElem?_eq_some_iff.1 hu).1
    rw [length_flatR, List.length_drop] at hjl
    rw [Addr.add_lit, World.ownsRow.cellAt H.out.own _ (by omega)]
    rw [← flatR_drop, List.getElem?_drop] at hu
    exact hu
  have hone2 : ∀ u ∈ flatR (g.drop i), u.oneCell' = true := fun u hu => H.out.oneCell u (by rw [← flatR_drop] at hu; exact List.mem_of_mem_drop hu)
  have hlz : (Builtin.zeroCells (Value.agg #[Value.int IntKind.i64 0, Value.slice none 0 0]).cells (g.length + 1 - i)).toList.length = (g.length + 1 - i) * 2 := by
    rw [Array.length_toList, size_zeroCells]; rfl
  have hlr : rest.length = (c2 - (g.length + 1)) * 2 := by
    simp only [List.length_append, length_flatR, List.length_take, hlz] at hsz
    omega
  obtain ⟨w3, hr3, hb3, hg3⟩ := run_copy_bk (P := Try.prog) (w := w2.drew) 37 37 3 40 i0 Try.underlying37 hinf w.heap.size ((i + 1) * 2) (g.length - i) (c2 - (i + 1)) ⟨b, i * 2, none⟩ (g.length - i) (cap - i) (g.length - i) hb2 (flatR (g.drop i))
    (Nat.min_self _) (by rw [hz1, length_flatR, List.length_drop]) hcells2
    (by
      simp only [List.length_append, List.length_take, List.length_drop, length_flatR, hlz, hlr, List.length_cons, List.length_nil]
      omega) hone2
  generalize hZ : (Builtin.zeroCells (Value.agg #[Value.int IntKind.i64 0, Value.slice none 0 0]).cells (g.length + 1 - i)).toList = Z at *
  have hown : w3.ownsRow 0 40 2 (.slice (some ⟨w.heap.size, 0, none⟩) (g.length + 1) c2) (g.length + 1) (flatR (g.take i) ++ [.int .i64 k, .slice ac nc cc] ++ flatR (g.drop i)) := by
    refine own_of_bk hb3 hge hmx ?_ ?_
    · simp only [List.length_append, List.length_take, List.length_drop, length_flatR, hlz, hlr, List.length_cons, List.length_nil]
      omega
    · have hA : (flatR (g.take i)).length = i * 2 := by rw [length_flatR, List.length_take]; omega
      have h1 : (flatR (g.take i) ++ Z ++ rest).take (i * 2) = flatR (g.take i) := by
        rw [List.append_assoc, ← hA, List.take_left]
      rw [h1]
      have h2 : ((flatR (g.take i) ++ [Value.int .i64 k, .slice ac nc cc] ++ (flatR (g.take i) ++ Z ++ rest).drop (i * 2 + [Value.int .i64 k, .slice ac nc cc].length)).take ((i + 1) * 2)) = flatR (g.take i) ++ [Value.int .i64 k, .slice ac nc cc] := by
        have : (i + 1) * 2 = (flatR (g.take i) ++ [Value.int .i64 k, .slice ac nc cc]).length := by simp [hA]; omega
        rw [this, List.take_left]
      rw [h2]
      have : (g.length + 1) * 2 = (flatR (g.take i) ++ [Value.int .i64 k, .slice ac nc cc] ++ flatR (g.drop i)).length := by
        simp [length_flatR]; omega
      rw [this, List.take_left]
  have Hown := Lib.hid hown
  have Hf3 : Hid (Fr w w3 Nil) := hfr2.grown hg3 fun j hj hlt => by cases hj; omega
  have bb1 : (0 : Int) ≤ (i : Int) + 1 := by omega
  have bb2 : (i : Int) + 1 ≤ (g.length : Int) + 1 := by omega
  have bb3 : (0 : Int) ≤ (i : Int) := by omega
  have bb4 : (i : Int) ≤ (g.length : Int) := by omega
  have bb5 : ¬ c2 = i + 1 := by omega
  have bb6 : ¬ cap = i := by omega
  clear hb2 hg2 hb3 hg3 hown hfr2 hcells hcells2 hone hone2 hlz hlr hsz Hsz Hbk Hfr hZ
  have Hr3 := Lib.hid hr3
  clear hr3
  go_wp2_with (at_builtin; refine Lib.wpList_append_run _ rfl _ _ _ _ rfl _ _ rfl rfl _ _ Hrun.out ?_)
  have bw : IntKind.i64.wrap ((i : Int) + 1) = (i : Int) + 1 := IntWalk.i64_in _ (by omega)
  have bt : ((i : Int) + 1).toNat = i + 1 := by omega
  go_still_tail 8, (by kernel_rfl)
  change wpList _ _ _ _ _ w2.drew
  clear bw bt
  have hr3 := Hr3.out
  clear Hr3
  go_wp2_with fail
  go_ret
  exact ⟨w.heap.size, c2, rfl, Hown.out, Hf3.out.of_nil, .inr (Nat.le_refl _)⟩

set_option maxRecDepth 100000 in
set_option maxHeartbeats 400000 in
theorem insert_shift (b cap : Nat) (g : List GRow) (i : Nat) (hi : i < g.length) (hc : g.length + 1 ≤ cap) (k : Int) (ac : Option Addr) (nc cc B : Nat) (w : World) (h : RL w (.slice (some ⟨b, 0, none⟩) g.length cap) g)
    (hB : Bk w B 40 [.int .i64 k, .slice ac nc cc]) (hne : B ≠ b) (hlen : g.length ≤ 1000000) :
    Calls Try.prog 33 #[.slice (some ⟨b, 0, none⟩) g.length cap, .int .i64 i, .slice (some ⟨B, 0, none⟩) 1 1] w (InsRet (.slice (some ⟨b, 0, none⟩) g.length cap) g i [.int .i64 k, .slice ac nc cc] w) := by
  obtain ⟨i0, hinf, hz0, hz1, hz2⟩ := info_parts Try.infoR
  have hone : ∀ u ∈ [Value.int .i64 k, .slice ac nc cc], u.oneCell' = true := by intro u hu; simp at hu; rcases hu with rfl | rfl <;> rfl
  have hlw : b < w.heap.size := by have := (World.ownsRow.lt h.own b rfl).2; exact this
  have hcells2 : ∀ j u, (flatR (g.drop i))[j]? = some u → w.drew.cell? ((⟨b, i * 2, none⟩ : Addr).add j) = some u := by
    intro j u hu
    refine ((Fr.refl w Nil).drew).cell ?_ fun h => h
    have hjl := (List.getElem?_eq_some_iff.1 hu).1
    rw [length_flatR, List.length_drop] at hjl
    rw [Addr.add_lit, World.ownsRow.cellAt h.own _ (by omega)]
    rw [← flatR_drop, List.getElem?_drop] at hu
    exact hu
  have hone2 : ∀ u ∈ flatR (g.drop i), u.oneCell' = true := fun u hu => h.oneCell u (by rw [← flatR_drop] at hu; exact List.mem_of_mem_drop hu)
  obtain ⟨cs, hbk, _, hmx, hsz, htk⟩ := bk_of_own h.own
  obtain ⟨w2, hr2, hb2, hg2⟩ := run_copy_bk (P := Try.prog) (w := w.drew) 37 37 3 40 i0 Try.underlying37 hinf b ((i + 1) * 2) (g.length - i) (cap - (i + 1)) ⟨b, i * 2, none⟩ (g.length + 1 - i) (cap - i) (g.length - i) hbk.drew (flatR (g.drop i))
    (by simp only [Nat.min_def]; split <;> omega) (by rw [hz1, length_flatR, List.length_drop]) hcells2 (by rw [hsz, length_flatR, List.length_drop]; omega) hone2
  have hf2 : Fr w w2 (fun j => j = b) := ((Fr.refl w _).drew).grown hg2 fun j hj _ => by cases hj; rfl
  have hcells : ∀ j u, [Value.int .i64 k, .slice ac nc cc][j]? = some u → w2.cell? ((⟨B, 0, none⟩ : Addr).add j) = some u := by
    intro j u hu
    refine hf2.cell (World.news_of_block hB j u hu) ?_
    have : ((⟨B, 0, none⟩ : Addr).add j).block = B := by unfold Addr.add; split <;> rfl
    rw [this]; exact hne
  obtain ⟨w3, hr3, hb3, hg3⟩ := run_copy_bk (P := Try.prog) (w := w2) 37 37 3 40 i0 Try.underlying37 hinf b (i * 2) (g.length + 1 - i) (cap - i) ⟨B, 0, none⟩ 1 1 1 hb2 [.int .i64 k, .slice ac nc cc]
    (by simp only [Nat.min_def]; split <;> omega) (by rw [hz1]; rfl) hcells
    (by
      simp only [List.length_append, List.length_take, List.length_drop, length_flatR, hsz, List.length_cons, List.length_nil]
      omega) hone
  have hown : w3.ownsRow 0 40 2 (.slice (some ⟨b, 0, none⟩) (g.length + 1) cap) (g.length + 1) (flatR (g.take i) ++ [.int .i64 k, .slice ac nc cc] ++ flatR (g.drop i)) := by
    refine own_of_bk hb3 hc hmx ?_ ?_
    · simp only [List.length_append, List.length_take, List.length_drop, length_flatR, hsz, List.length_cons, List.length_nil]
      omega
    · have hA : (flatR (g.take i)).length = i * 2 := by rw [length_flatR, List.length_take]; omega
      have h0 : cs.take (i * 2) = flatR (g.take i) := by
        rw [← flatR_take, ← htk, List.take_take]
        congr 1; omega
      have h1 : (cs.take ((i + 1) * 2) ++ flatR (g.drop i) ++ cs.drop ((i + 1) * 2 + (flatR (g.drop i)).length)).take (i * 2) = flatR (g.take i) := by
        rw [List.append_assoc, List.take_append_of_le_length (by rw [List.length_take]; omega), List.take_take, ← h0]
        congr 1; omega
      rw [h1]
      have h2 : (cs.take ((i + 1) * 2) ++ flatR (g.drop i) ++ cs.drop ((i + 1) * 2 + (flatR (g.drop i)).length)).drop (i * 2 + [Value.int .i64 k, .slice ac nc cc].length) = flatR (g.drop i) ++ cs.drop ((i + 1) * 2 + (flatR (g.drop i)).length) := by
        rw [List.append_assoc]
        have : i * 2 + [Value.int .i64 k, .slice ac nc cc].length = (cs.take ((i + 1) * 2)).length := by
          rw [List.length_take, hsz]; simp; omega
        rw [this, List.drop_left]
      rw [h2]
      have : (g.length + 1) * 2 = (flatR (g.take i) ++ [Value.int .i64 k, .slice ac nc cc] ++ flatR (g.drop i)).length := by
        simp [length_flatR]; omega
      rw [this, ← List.append_assoc, List.take_left]
  have hov : ∀ lb cb, (callFunc 50 #[.slice (some ⟨B, 0, none⟩) 1 1, .slice (some ⟨b, (i + 1) * 2, none⟩) lb cb]).run Try.prog w = .ok (.value (.bool false)) w := fun lb cb => by
    rw [run_callFunc_extern Try.func50 (by kernel_rfl) (by kernel_rfl) (by kernel_rfl) (e := Extern.SlicesOverlaps.overlaps #[37, 37] #[4]) (by kernel_rfl),
      Lib.run_overlaps_apart w 37 4 40 Try.underlying37 2 (fun w => by rw [sizeOf_run hinf, hz1]) ⟨B, 0, none⟩ ⟨b, (i + 1) * 2, none⟩ 1 1 lb cb hne 40 40 2 (cap * 2)
        (by have := hB; unfold Bk at this; simp [World.shape?, this]) (by have := hbk; unfold Bk at this; simp [World.shape?, this, hsz]) (by omega) (hB.free 0) (hB.free 2)]
    rfl
  have Hown := Lib.hid hown
  have Hf3 : Hid (Fr w w3 (fun j => j = b)) := hf2.grown hg3 fun j hj _ => by cases hj; rfl
  have hne1 : ((i : Int) == (g.length : Int)) = false := by rw [beq_eq_false_iff_ne]; omega
  have hgt : (g.length : Int) + 1 ≤ (cap : Int) := by omega
  have bb1 : (0 : Int) ≤ (i : Int) + 1 := by omega
  have bb2 : (i : Int) + 1 ≤ (g.length : Int) + 1 := by omega
  have bb3 : (0 : Int) ≤ (i : Int) := by omega
  have bb4 : (i : Int) ≤ (g.length : Int) := by omega
  have bb7 : (i : Int) ≤ (g.length : Int) + 1 := by omega
  have bb5 : ¬ cap = i + 1 := by omega
  have bb6 : ¬ cap = i := by omega
  clear h hB hb2 hg2 hb3 hg3 hown hf2 hcells hcells2 hone hone2 hsz hbk htk hne
  have Hr3 := Lib.hid hr3
  have Hr2 := Lib.hid hr2
  clear hr3 hr2
  go_enter Try.func33, Try.ntmps33
  go_wp2_with (simp only [hov])
  have bw : IntKind.i64.wrap ((i : Int) + 1) = (i : Int) + 1 := IntWalk.i64_in _ (by omega)
  have bt : ((i : Int) + 1).toNat = i + 1 := by omega
  go_still_tail 8, (by kernel_rfl)
  change wpList _ _ _ _ _ w.drew
  clear bw bt hov
  have hr2 := Hr2.out
  have hr3 := Hr3.out
  clear Hr3 Hr2
  go_wp2_with fail
  go_ret
  exact ⟨b, cap, rfl, Hown.out, Hf3.out.mono fun j _ hj => by rw [hj]; rfl, .inl rfl⟩

theorem insert_any (lv : Value) (g : List GRow) (i : Nat) (hi : i ≤ g.length) (k : Int) (ac : Option Addr) (nc cc B : Nat) (w : World) (h : RL w lv g)
    (hB : Bk w B 40 [.int .i64 k, .slice ac nc cc]) (hne : lv.ownBlock ≠ some B) (hlen : g.length ≤ 1000000) :
    Calls Try.prog 33 #[lv, .int .i64 i, .slice (some ⟨B, 0, none⟩) 1 1] w (InsRet lv g i [.int .i64 k, .slice ac nc cc] w) := by
  by_cases he : i = g.length
  · subst he
    exact insert_end lv g k ac nc cc B w h hB hlen
  · rcases h.shape with ⟨_, h2⟩ | ⟨b, cap, rfl, hc⟩
    · rw [h2] at hi he; simp at hi; simp [hi] at he
    · by_cases hr : g.length + 1 ≤ cap
      · exact insert_shift b cap g i (by omega) hr k ac nc cc B w h hB (fun e => hne (by rw [e]; rfl)) hlen
      · exact insert_grow b cap g i (by omega) (by omega) hc k ac nc cc B w h hB hlen
end Go.Proofs.Ytljgifjokdppgaa
