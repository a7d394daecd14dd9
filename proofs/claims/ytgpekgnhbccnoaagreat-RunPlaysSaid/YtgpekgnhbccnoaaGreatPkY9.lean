/-
  Walk of All.
  Walk of slices.Delete over rows.
  Walk of slices.Insert over rows.
-/
import Derived.Test.YtgpekgnhbccnoaaGreatPkY8
import Derived.StillTailTactics
import Derived.Lib.AppendZeros
import Derived.Lib.Overlaps
namespace Go.Proofs.YtgpekgnhbccnoaaGreat
open Go Go.RowKit

theorem Tryz.infoR : (Tryz.prog.info? 128).map (fun i => (i.zero, i.size, i.bytes)) = some (some (.agg #[.int .i64 0, .slice none 0 0]), 2, 32) := by kernel_rfl

def rowsOf (g : List GRow) : List (Int × List Int) := g.map fun r => (r.key, r.cols)
/-- A list of rows of the call's own: new blocks, each its own. -/
structure NewRL (B : Nat) (w : World) (v : Value) (g : List GRow) : Prop where
  rl : RL w v g
  nodup : (rlBlocks v g).Nodup
  new : ∀ k ∈ rlBlocks v g, B ≤ k
def AllRet (rows : List (Int × List Int)) (w : World) (e : Ending) (w' : World) : Prop :=
  ∃ a cap g, e = .returned (.slice a g.length cap) ∧ NewRL w.heap.size w' (.slice a g.length cap) g ∧ rowsOf g = rows ∧ Fr w w' Nil
theorem NewRL.fr {B : Nat} {w w' : World} {v : Value} {g : List GRow} (h : NewRL B w v g) (hf : Fr w w' Nil) : NewRL B w' v g :=
  ⟨h.rl.fr hf fun _ _ h => h, h.nodup, h.new⟩
/-- A row is appended. -/
theorem NewRL.snoc {B : Nat} {w w1 w2 w3 : World} {v : Value} {g : List GRow} {b cap : Nat} {k : Int} {cv : Value} {xs : List Int}
    (h : NewRL B w v g) (hc : Cloned xs w cv w1) (hB : B ≤ w.heap.size) (hf2 : Fr w1 w2 Nil)
    (ho : w3.ownsRow 0 128 2 (.slice (some ⟨b, 0, none⟩) (g.length + 1) cap) (g.length + 1) (flatR g ++ [.int .i64 k, cv]))
    (hg : w2.grownBy w3 v.ownBlock) (hat : v.ownBlock = some b ∨ b = w2.heap.size) :
    NewRL B w3 (.slice (some ⟨b, 0, none⟩) (g.length + 1) cap) (g ++ [⟨k, cv, xs⟩]) := by
  have hvlt : ∀ j, v.ownBlock = some j → j < w.heap.size := fun j hj => (World.ownsRow.lt h.rl.own j hj).2
  have hw12 := hf2.size
  have hw01 := hc.2.2.size
  have hf3 : Fr w2 w3 (fun j => v.ownBlock = some j) := (Fr.refl w2 _).grown hg fun j hj _ => hj
  have hnc : ∀ j, cv.ownBlock = some j → w.heap.size ≤ j := hc.2.1
  have hcl : ∀ j, cv.ownBlock = some j → j < w1.heap.size := hc.1.lt
  have hn := h.nodup
  simp only [rlBlocks] at hn
  rw [List.nodup_append] at hn
  obtain ⟨_, hng, hd⟩ := hn
  have hgl : ∀ j ∈ g.flatMap (fun r => r.cv.ownBlock.toList), j < w.heap.size := fun j hj => h.rl.lt j (by simp [rlBlocks, hj])
  have hbg : b ∉ g.flatMap (fun r => r.cv.ownBlock.toList) := by
    intro hb
    rcases hat with h1 | h1
    · exact hd b (by simp [h1]) b hb rfl
    · have := hgl b hb; omega
  have hbc : cv.ownBlock ≠ some b := by
    intro hb
    have h1 := hnc b hb
    have h2 := hcl b hb
    rcases hat with h3 | h3
    · have := hvlt b h3; omega
    · omega
  refine ⟨⟨?_, ?_⟩, ?_, ?_⟩
  · rw [flatR_append]
    simpa [flatR] using ho
  · intro r hr
    rw [List.mem_append] at hr
    rcases hr with hr | hr
    · have h1 := ((h.rl.cols r hr).fr hc.2.2 fun _ _ h => h).fr hf2 fun _ _ h => h
      refine h1.fr hf3 fun j hj hv => ?_
      exact hd j (by simp [hv]) j (by simp only [List.mem_flatMap]; exact ⟨r, hr, by simp [hj]⟩) rfl
    · simp only [List.mem_singleton] at hr
      subst hr
      refine (hc.1.fr hf2 fun _ _ h => h).fr hf3 fun j hj hv => ?_
      have := hnc j hj
      have := hvlt j hv
      omega
  · simp only [rlBlocks, List.flatMap_append, List.flatMap_cons, List.flatMap_nil, List.append_nil]
    show ([b] ++ _).Nodup
    rw [List.nodup_append]
    refine ⟨by simp, ?_, ?_⟩
    · rw [List.nodup_append]
      refine ⟨hng, by cases cv.ownBlock <;> simp, ?_⟩
      intro j hj j' hj' e
      subst e
      have := hgl j hj
      have := hnc j (by simpa using hj')
      omega
    · intro j hj j' hj' e
      subst e
      simp only [List.mem_singleton] at hj
      subst hj
      rw [List.mem_append] at hj'
      rcases hj' with hj' | hj'
      · exact hbg hj'
      · exact hbc (by simpa using hj')
  · intro j hj
    simp only [rlBlocks, List.flatMap_append, List.flatMap_cons, List.flatMap_nil, List.append_nil, List.mem_append] at hj
    rcases hj with hj | hj | hj
    · simp [Value.ownBlock] at hj
      subst hj
      rcases hat with h1 | h1
      · exact h.new j (by simp [rlBlocks, h1])
      · omega
    · exact h.new j (by simp only [rlBlocks, List.mem_append]; exact .inr hj)
    · have := hnc j (by simpa using hj); omega

set_option maxRecDepth 100000 in
set_option maxHeartbeats 400000 in
theorem all_any (R : GRows) (i : Int) (w : World) (h : RowsAt w R) (hg : Good R.mod) :
    Calls Tryz.prog 64 #[R.val, .int .i64 i] w (AllRet (mtab R.mod i).2 w) := by
  obtain ⟨i0, hi, hz0, hz1, hz2⟩ := info_parts Tryz.infoR
  have H := Lib.hid h
  have hl : R.tabs.length ≤ 1000000 := by have := hg.few; simp [GRows.mod] at this; omega
  have Hg := Lib.hid (hg.at i)
  clear h hg
  go_enter Tryz.func64, Tryz.ntmps64
  go_wp2_with fail
  refine (table_any R i _ H.out hl).mono ?_
  rintro e w1 ⟨t, rfl, ht, hf, hm, hin⟩
  rw [← hm] at Hg
  have Hm := Lib.hid hm
  clear hm hin
  have Ht := Lib.hid ht
  have Hf := Lib.hid hf
  have q1 := ht.blk.cell 1
  clear ht hf
  have hlen := Hg.out.few'
  obtain ⟨a0, cap, hlv⟩ := Ht.out.rl.shape2
  rw [hlv] at q1
  have Hlv := Lib.hid hlv
  clear hlv
  go_wp2_with fail
  go_loopw [5, 15] (fun v vi wr => ∃ (a : Option Addr) (cap : Nat) (g : List GRow), g.length ≤ t.rows.length ∧ vi = .int .i64 g.length ∧ v = .slice a g.length cap ∧ NewRL w1.heap.size wr v g ∧ rowsOf g = (rowsOf t.rows).take g.length ∧ Fr w1 wr Nil)
    (fun _ vi _ => t.rows.length - (intOf vi).toNat)
  case atStart => exact ⟨none, 0, [], by simp, rfl, rfl, ⟨⟨World.ownsRow_nil _ _ _ _, fun r hr => by cases hr⟩, List.nodup_nil, fun k hk => by cases hk⟩, rfl, Fr.refl _ _⟩
  case round =>
    obtain ⟨al, cl, g, hk, rfl, rfl, hnew, hrows, hfr⟩ := hrel
    have Hfr := Lib.hid hfr
    have Hnew := Lib.hid hnew
    have Hrows := Lib.hid hrows
    clear hfr hnew hrows
    by_cases hlt : g.length < t.rows.length
    · have hr := List.getElem?_eq_getElem hlt
      generalize t.rows[g.length] = r at hr
      have HT : TabAt wr t := Ht.out.fr Hfr.out fun _ _ h => h
      obtain ⟨b, capb, hlv, _⟩ : ∃ b cap, t.lv = .slice (some ⟨b, 0, none⟩) t.rows.length cap ∧ True := by
        rcases HT.rl.shape with ⟨_, h2⟩ | ⟨b, cap, h1, _⟩
        · rw [h2] at hlt; simp at hlt
        · exact ⟨b, cap, h1, trivial⟩
      rw [Hlv.out] at hlv
      simp only [Value.slice.injEq, true_and] at hlv
      obtain ⟨rfl, rfl⟩ := hlv
      have hrl := HT.rl
      rw [Hlv.out] at hrl
      have p0 := hrl.key _ r hr
      have p1 := hrl.cv _ r hr
      have hcl := hrl.cols r (List.mem_of_getElem? hr)
      have hw : r.cols.length ≤ 1000000 := by
        have := Hg.out.width' r (List.mem_of_getElem? hr)
        have h3 := Hg.out.le
        simp only [GTab.mod] at h3
        omega
      obtain ⟨ac, capc, hcv⟩ := hcl.shape
      rw [hcv] at hcl p1
      have Hcl := Lib.hid hcl
      have hlt2 : (g.length : Int) < (t.rows.length : Int) := by omega
      have Hr := Lib.hid hr
      clear hrl hcl hcv hr HT
      go_wp2_with fail
      refine (rowclone_any _ _ r.cols _ (Hcl.out.at.fr ((Fr.refl wr Nil).alloc _) fun _ _ h => h) hw).mono ?_
      rintro e w2 ⟨a2, c2, rfl, hclo⟩
      have Hclo := Lib.hid hclo
      clear hclo p0 p1
      go_wp2_with (at_builtin; refine wpList_append_lies _ rfl _ _ _ rfl 0 128 i0 _ 2 32 Tryz.underlying124 hi hz0 hz1 hz2 rfl (by omega) _ g.length (flatR g) rfl ?c1 ⟨w2.heap.size, 0, none⟩ 1 1 [.int .i64 r.key, .slice a2 r.cols.length c2] rfl rfl ?c2 ?c3 (by omega) ?c4 ?c5 (Nat.zero_le _) (w2.heap.size + 1) (by simp) ?_)
      case c1 =>
        exact ((((Fr.refl wr Nil).alloc _).trans0 Hclo.out.2.2).alloc _).own Hnew.out.rl.own fun _ _ h => h
      case c2 => exact World.news_of_block (heap_alloc_new w2 _)
      case c3 => intro u hu; simp at hu; rcases hu with rfl | rfl <;> rfl
      case c4 => unfold maxLen; omega
      case c5 => omega
      intro b2 cap2 w3 ho hgr hat _
      have Ho := Lib.hid ho
      have Hgr := Lib.hid hgr
      have Hat := Lib.hid hat
      clear ho hgr hat
      go_wp2_with fail
      go_roundw
      case rel =>
        refine ⟨some ⟨b2, 0, none⟩, cap2, g ++ [⟨r.key, .slice a2 r.cols.length c2, r.cols⟩], by simp; omega, by simp, by simp, ?_, ?_, ?_⟩
        · have hN := (Hnew.out.fr ((Fr.refl wr Nil).alloc (Obj.cells #[Value.int IntKind.i64 r.key, Value.slice ac r.cols.length capc] 128)))
          have hB : w1.heap.size ≤ (wr.alloc (Obj.cells #[Value.int IntKind.i64 r.key, Value.slice ac r.cols.length capc] 128)).heap.size := by
            have h2 := Hfr.out.size
            simp; omega
          refine hN.snoc Hclo.out hB ((Fr.refl w2 Nil).alloc _) Ho.out Hgr.out ?_
          rcases Hat.out with h | h
          · exact .inl (by rw [← h])
          · exact .inr (by simpa using h)
        · show rowsOf (g ++ [_]) = _
          have h1 : (rowsOf t.rows)[g.length]? = some (r.key, r.cols) := by simp [rowsOf, Hr.out]
          have h2 : (g ++ [GRow.mk r.key (.slice a2 r.cols.length c2) r.cols]).length = g.length + 1 := by simp
          rw [h2, List.take_add_one, h1, ← Hrows.out]
          simp [rowsOf]
        · have h1 := (((Fr.refl wr Nil).alloc (Obj.cells #[Value.int IntKind.i64 r.key, Value.slice ac r.cols.length capc] 128)).trans0 Hclo.out.2.2).alloc (Obj.cells #[Value.int IntKind.i64 r.key, Value.slice a2 r.cols.length c2] 128)
          refine (Hfr.out.trans0 h1).grown Hgr.out fun j hj hlt => ?_
          have h3 := Hnew.out.new j (by simp only [rlBlocks, List.mem_append, Option.mem_toList]; exact .inl hj)
          omega
      case measure => simp [intOf]; omega
    · go_wp2_with fail
      go_ret
      refine ⟨al, cl, g, rfl, ⟨Hnew.out.rl, Hnew.out.nodup, fun j hj => Nat.le_trans Hf.out.size (Hnew.out.new j hj)⟩, ?_, Hf.out.trans0 Hfr.out⟩
      rw [Hrows.out, ← Hm.out, List.take_of_length_le (by simp [rowsOf]; omega)]
      rfl
end Go.Proofs.YtgpekgnhbccnoaaGreat
namespace Go.Proofs.YtgpekgnhbccnoaaGreat
open Go Go.RowKit

/-- A shorter look at an owned row. -/
theorem own_take {w : World} {e : TypeId} {size b n cap i : Nat} {xs : List Value} (h : w.ownsRow 0 e size (.slice (some ⟨b, 0, none⟩) n cap) n xs) (hi : i ≤ n) :
    w.ownsRow 0 e size (.slice (some ⟨b, 0, none⟩) i cap) i (xs.take (i * size)) := by
  rcases h.2 with ⟨h', _⟩ | ⟨g, cap', cur, h', hb, hg, hnc, hcm, hcs, htake⟩
  · simp at h'
  · simp only [Value.slice.injEq, Option.some.injEq, Addr.mk.injEq, and_true, true_and] at h'
    obtain ⟨rfl, rfl⟩ := h'
    have hle : i * size ≤ n * size := Nat.mul_le_mul_right _ hi
    refine ⟨by rw [List.length_take, h.1]; omega, .inr ⟨b, cap, cur, rfl, hb, hg, by omega, hcm, hcs, ?_⟩⟩
    rw [← htake, List.take_take]
    congr 1
    omega

theorem zeroCells_one {z : Array Value} : Builtin.zeroCells z 1 = z := by
  apply Array.ext_getElem?
  intro j
  simp only [Builtin.zeroCells, Nat.one_mul, Array.getElem?_map]
  by_cases hj : j < z.size
  · have : (Array.range z.size)[j]? = some j := by simp [hj]
    rw [this]
    simp [Nat.mod_eq_of_lt hj, hj]
  · have : (Array.range z.size)[j]? = none := by simp; omega
    rw [this]
    simp; omega
/-- 'clear' of one element behind what is owned: what is owned stays. -/
theorem run_clear_one {P : Program} (w : World) (t ty e : TypeId) (z : Value) (size : Nat) (ht : P.underlying t = some (.slice e)) (hz : ∀ w, (zeroValue e).run P w = .ok z w) (hzs : z.cells.size = size) (hz1 : ∀ u ∈ z.cells.toList, u.oneCell' = true)
    (b n cap : Nat) (xs : List Value) (hown : w.ownsRow 0 e size (.slice (some ⟨b, 0, none⟩) n cap) n xs) (hc : n + 1 ≤ cap) (c : Nat) :
    ∃ w', (Builtin.clear_ #[t] ty #[.slice (some ⟨b, n * size, none⟩) 1 c]).run P w = .ok (.tuple #[]) w' ∧ w'.ownsRow 0 e size (.slice (some ⟨b, 0, none⟩) n cap) n xs ∧ w.grownBy w' (some b) := by
  rcases hown.2 with ⟨h', _⟩ | ⟨g, cap', cur, h', hb, hg, hnc, hcm, hcs, htake⟩
  · simp at h'
  simp only [Value.slice.injEq, Option.some.injEq, Addr.mk.injEq, and_true, true_and] at h'
  obtain ⟨rfl, rfl⟩ := h'
  have hfit : n * size + 0 + z.cells.toList.length ≤ cur.size := by
    rw [hcs, Array.length_toList, hzs]
    have : (n + 1) * size ≤ cap * size := Nat.mul_le_mul_right _ hc
    rw [Nat.add_mul] at this
    omega
  have hst := run_storeCells_at P b (n * size) e z.cells.toList 0 cur w hg hfit hz1
  have hrun : (Builtin.clear_ #[t] ty #[.slice (some ⟨b, n * size, none⟩) 1 c]).run P w = .ok (.tuple #[]) (w.setRow b (cur.toList.take (n * size) ++ z.cells.toList ++ cur.toList.drop (n * size + z.cells.toList.length)).toArray) := by
    simp only [Nat.add_zero] at hst
    simp [Builtin.clear_, run_underlying ht, hz, zeroCells_one, hst]
  refine ⟨_, hrun, ⟨hown.1, .inr ⟨b, cap, _, rfl, hb, setRow_heap w b cur _ e _ hg, hnc, hcm, ?_, ?_⟩⟩, ⟨rfl, rfl, rfl, by simp, fun k _ hk => setRow_other w b k _ (fun e => hk (by simp [e]))⟩⟩
  · simp only [List.size_toArray, List.length_append, List.length_take, List.length_drop, Array.length_toList]
    simp only [Array.length_toList] at hfit
    omega
  · have hle : n * size ≤ cur.toList.length := by rw [Array.length_toList]; omega
    rw [← htake]
    show List.take (n * size) (cur.toList.take (n * size) ++ z.cells.toList ++ cur.toList.drop (n * size + z.cells.toList.length)) = _
    rw [List.append_assoc, List.take_append_of_le_length (by rw [List.length_take]; omega), List.take_take]
    congr 1
    omega
theorem Tryz.zeroR (w : World) : (zeroValue 128).run Tryz.prog w = .ok (.agg #[.int .i64 0, .slice none 0 0]) w := by kernel_rfl

theorem flatR_take (g : List GRow) (i : Nat) : (flatR g).take (i * 2) = flatR (g.take i) := by
  induction g generalizing i with
  | nil => simp [flatR]
  | cons r g ih =>
    cases i with
    | zero => simp [flatR]
    | succ i =>
      have : (i + 1) * 2 = i * 2 + 1 + 1 := by omega
      rw [this]
      simpa [flatR] using ih i
theorem flatR_drop (g : List GRow) (i : Nat) : (flatR g).drop (i * 2) = flatR (g.drop i) := by
  induction g generalizing i with
  | nil => simp [flatR]
  | cons r g ih =>
    cases i with
    | zero => simp [flatR]
    | succ i =>
      have : (i + 1) * 2 = i * 2 + 1 + 1 := by omega
      rw [this]
      simpa [flatR] using ih i
theorem RL.oneCell {w : World} {lv : Value} {g : List GRow} (h : RL w lv g) : ∀ u ∈ flatR g, u.oneCell' = true := by
  intro u hu
  simp only [flatR, List.mem_flatMap] at hu
  obtain ⟨r, hr, hu⟩ := hu
  simp only [List.mem_cons, List.not_mem_nil, or_false] at hu
  rcases hu with rfl | rfl
  · rfl
  · obtain ⟨a, c, hc⟩ := (h.cols r hr).shape
    rw [hc]; rfl

set_option maxRecDepth 100000 in
set_option maxHeartbeats 400000 in
theorem delete_any (b cap : Nat) (g : List GRow) (i : Nat) (w : World) (h : RL w (.slice (some ⟨b, 0, none⟩) g.length cap) g) (hi : i < g.length) (hcap : g.length ≤ cap) (hlen : g.length ≤ 1000000) :
    Calls Tryz.prog 121 #[.slice (some ⟨b, 0, none⟩) g.length cap, .int .i64 i, .int .i64 (i + 1)] w
      fun e w' => e = .returned (.slice (some ⟨b, 0, none⟩) (g.length - 1) cap) ∧ w'.ownsRow 0 128 2 (.slice (some ⟨b, 0, none⟩) (g.length - 1) cap) (g.length - 1) (flatR (g.eraseIdx i)) ∧ Fr w w' (fun k => k = b) := by
  obtain ⟨i0, hinf, hz0, hz1, hz2⟩ := info_parts Tryz.infoR
  have H := Lib.hid h
  clear h
  go_enter Tryz.func121, Tryz.ntmps121
  go_wp2_with fail
  have b1 : (0 : Int) ≤ (i : Int) := by omega
  have b2 : (i : Int) ≤ (cap : Int) := by omega
  have b3 : (0 : Int) ≤ (i : Int) + 1 := by omega
  have b4 : (i : Int) + 1 ≤ (g.length : Int) := by omega
  go_still_tail 6, (by kernel_rfl)
  change wpList _ _ _ _ _ w.drew
  generalize hao : (if cap = i + 1 then (some ⟨b, 0, none⟩ : Option Addr) else some ⟨b, (i + 1) * 2, none⟩) = ao
  have hown0 := own_take (w := w.drew) H.out.own (show i ≤ g.length by omega)
  rw [flatR_take] at hown0
  have hone : ∀ u ∈ flatR (g.drop (i + 1)), u.oneCell' = true := fun u hu => H.out.oneCell u (by rw [← flatR_drop] at hu; exact List.mem_of_mem_drop hu)
  have hcell : ∀ ad, ao = some ad → ∀ j u, (flatR (g.drop (i + 1)))[j]? = some u → w.drew.cell? (ad.add j) = some u := by
    intro ad had j u hu
    have hjl := (List.getElem?_eq_some_iff.1 hu).1
    rw [length_flatR, List.length_drop] at hjl
    rw [← hao, if_neg (by omega)] at had
    obtain rfl := Option.some.inj had
    rw [Addr.add_lit, World.ownsRow.cellAt (w := w.drew) H.out.own _ (by omega)]
    rw [← flatR_drop, List.getElem?_drop] at hu
    exact hu
  have hnone : ao = none → g.length - (i + 1) = 0 ∧ cap - (i + 1) = 0 := by intro h; rw [← hao] at h; split at h <;> cases h
  have Hnone := Lib.hid hnone
  clear hnone hao
  have Hown0 := Lib.hid hown0
  have Hone := Lib.hid hone
  have Hcell := Lib.hid hcell
  clear hown0 hone hcell
  go_wp2_with (at_builtin; refine wpList_append_fits_any _ rfl _ _ _ rfl 0 128 i0 2 Tryz.underlying124 hinf hz1 b i cap (flatR (g.take i)) rfl Hown0.out _ (g.length - (i + 1)) (cap - (i + 1)) (flatR (g.drop (i + 1))) rfl ?c1 Hnone.out Hcell.out Hone.out ?c3 ?_)
  case c1 => rw [length_flatR, List.length_drop]
  case c3 => omega
  intro w1 hown hgr
  have e1 : i + (g.length - (i + 1)) = g.length - 1 := by omega
  have e2 : flatR (g.take i) ++ flatR (g.drop (i + 1)) = flatR (g.eraseIdx i) := by rw [← flatR_append, List.eraseIdx_eq_take_drop_succ]
  rw [e1, e2] at hown
  rw [e1]
  have Hown := Lib.hid hown
  have Hgr := Lib.hid hgr
  clear hown hgr e1 e2 Hown0 Hone Hcell
  have b5 : ¬ cap = g.length - 1 := by omega
  have b6 : g.length - (g.length - 1) = 1 := by omega
  obtain ⟨w2, hrun, hown2, hgr2⟩ := run_clear_one (P := Tryz.prog) w1 124 0 128 _ 2 Tryz.underlying124 Tryz.zeroR rfl (by intro u hu; simp [Value.cells] at hu; rcases hu with rfl | rfl <;> rfl) b (g.length - 1) cap _ Hown.out (by omega) (cap - (g.length - 1))
  have Hown2 := Lib.hid hown2
  have Hgr2 := Lib.hid hgr2
  clear hown2 hgr2 Hown
  go_wp2_with fail
  go_ret
  exact ⟨rfl, Hown2.out, (((Fr.refl w _).drew).grown Hgr.out fun k hk _ => by cases hk; rfl).grown Hgr2.out fun k hk _ => by cases hk; rfl⟩
end Go.Proofs.YtgpekgnhbccnoaaGreat
namespace Go.Proofs.YtgpekgnhbccnoaaGreat
open Go Go.RowKit

theorem own_of_bk {w : World} {b n cap size : Nat} {e : TypeId} {cs xs : List Value} (h : Bk w b e cs) (hn : n ≤ cap) (hc : cap ≤ maxLen) (hl : cs.length = cap * size) (ht : cs.take (n * size) = xs) :
    w.ownsRow 0 e size (.slice (some ⟨b, 0, none⟩) n cap) n xs := by
  refine ⟨?_, .inr ⟨b, cap, cs.toArray, rfl, Nat.zero_le _, h, hn, hc, by simpa using hl, by simpa using ht⟩⟩
  rw [← ht, List.length_take, hl]
  have : n * size ≤ cap * size := Nat.mul_le_mul_right _ hn
  omega
theorem bk_of_own {w : World} {b n cap size : Nat} {e : TypeId} {xs : List Value} (h : w.ownsRow 0 e size (.slice (some ⟨b, 0, none⟩) n cap) n xs) :
    ∃ cs, Bk w b e cs ∧ n ≤ cap ∧ cap ≤ maxLen ∧ cs.length = cap * size ∧ cs.take (n * size) = xs := by
  rcases h.2 with ⟨h', _⟩ | ⟨g, cap', cur, h', hb, hg, hnc, hcm, hcs, htake⟩
  · simp at h'
  · simp only [Value.slice.injEq, Option.some.injEq, Addr.mk.injEq, and_true, true_and] at h'
    obtain ⟨rfl, rfl⟩ := h'
    exact ⟨cur.toList, by simpa [Bk] using hg, hnc, hcm, by simpa using hcs, htake⟩

def InsRet (lv : Value) (g : List GRow) (i : Nat) (x : List Value) (w : World) (e : Ending) (w' : World) : Prop :=
  ∃ b cap, e = .returned (.slice (some ⟨b, 0, none⟩) (g.length + 1) cap) ∧ w'.ownsRow 0 128 2 (.slice (some ⟨b, 0, none⟩) (g.length + 1) cap) (g.length + 1) (flatR (g.take i) ++ x ++ flatR (g.drop i)) ∧
    Fr w w' (fun j => lv.ownBlock = some j) ∧ (lv.ownBlock = some b ∨ w.heap.size ≤ b)

set_option maxRecDepth 100000 in
set_option maxHeartbeats 400000 in
theorem insert_end (lv : Value) (g : List GRow) (k : Int) (ac : Option Addr) (nc cc B : Nat) (w : World) (h : RL w lv g) (hB : Bk w B 128 [.int .i64 k, .slice ac nc cc]) (hlen : g.length ≤ 1000000) :
    Calls Tryz.prog 77 #[lv, .int .i64 g.length, .slice (some ⟨B, 0, none⟩) 1 1] w (InsRet lv g g.length [.int .i64 k, .slice ac nc cc] w) := by
  obtain ⟨i0, hinf, hz0, hz1, hz2⟩ := info_parts Tryz.infoR
  obtain ⟨a, cap, rfl⟩ := h.shape2
  have hcase : cap = g.length ∨ ¬ cap = g.length := by omega
  have H := Lib.hid h
  have HB := Lib.hid hB
  clear h hB
  rcases hcase with rfl | hcase
  all_goals
   go_enter Tryz.func77, Tryz.ntmps77
   go_wp2_with (at_builtin; refine wpList_append_lies _ rfl _ _ _ rfl 0 128 i0 _ 2 32 Tryz.underlying124 hinf hz0 hz1 hz2 rfl (by omega) _ g.length (flatR g) rfl H.out.own ⟨B, 0, none⟩ 1 1 [.int .i64 k, .slice ac nc cc] rfl rfl ?c2 ?c3 (by omega) ?c4 ?c5 (Nat.zero_le _) w.heap.size rfl ?_)
   case c2 => exact World.news_of_block HB.out
   case c3 => intro u hu; simp at hu; rcases hu with rfl | rfl <;> rfl
   case c4 => unfold maxLen; omega
   case c5 => omega
   intro b2 cap2 w3 ho hgr hat _
   have Ho := Lib.hid ho
   have Hgr := Lib.hid hgr
   have Hat := Lib.hid hat
   clear ho hgr hat
   go_wp2_with fail
   go_ret
   refine ⟨b2, cap2, rfl, ?_, (Fr.refl w _).grown Hgr.out fun j hj _ => hj, ?_⟩
   · rw [List.take_of_length_le (Nat.le_refl _), List.drop_of_length_le (Nat.le_refl _)]
     simpa [flatR] using Ho.out
   · rcases Hat.out with h | h
     · exact .inl h
     · exact .inr (by omega)

set_option maxRecDepth 100000 in
set_option maxHeartbeats 400000 in
theorem insert_grow (b cap : Nat) (g : List GRow) (i : Nat) (hi : i < g.length) (hc : cap ≤ g.length) (hc2 : g.length ≤ cap) (k : Int) (ac : Option Addr) (nc cc B : Nat) (w : World) (h : RL w (.slice (some ⟨b, 0, none⟩) g.length cap) g)
    (hB : Bk w B 128 [.int .i64 k, .slice ac nc cc]) (hlen : g.length ≤ 1000000) :
    Calls Tryz.prog 77 #[.slice (some ⟨b, 0, none⟩) g.length cap, .int .i64 i, .slice (some ⟨B, 0, none⟩) 1 1] w (InsRet (.slice (some ⟨b, 0, none⟩) g.length cap) g i [.int .i64 k, .slice ac nc cc] w) := by
  obtain ⟨i0, hinf, hz0, hz1, hz2⟩ := info_parts Tryz.infoR
  have hcell : ∀ j u, (flatR (g.take i))[j]? = some u → w.cell? ((⟨b, 0, none⟩ : Addr).add j) = some u := by
    intro j u hu
    have := (own_take h.own (show i ≤ g.length by omega)).cells (g := b) rfl j u
    rw [flatR_take] at this
    exact this hu
  obtain ⟨c2, w1, rest, hrun, hbk, hge, hmx, hsz, hfr⟩ := run_append_zeros (P := Tryz.prog) (w := w) 124 3 124 128 i0 _ .i64 Tryz.underlying124 Tryz.underlying3 hinf hz0 ⟨b, 0, none⟩ i cap (flatR (g.take i)) (by rw [length_flatR, hz1, List.length_take]; omega) hcell (g.length + 1 - i) (by omega) (by omega) (by omega) (by omega) (by rw [hz2]; omega) (by omega) ((g.length : Int) + 1 - i) (by omega)
  have e1 : i + (g.length + 1 - i) = g.length + 1 := by omega
  rw [e1] at hrun hge
  have H := Lib.hid h
  have HB := Lib.hid hB
  have Hrun := Lib.hid hrun
  have Hbk := Lib.hid hbk
  have Hsz := Lib.hid (hsz (by rw [hz1]; rfl))
  have Hfr := Lib.hid hfr
  have hne : ((i : Int) == (g.length : Int)) = false := by rw [beq_eq_false_iff_ne]; omega
  have hgt : (cap : Int) < (g.length : Int) + 1 := by omega
  clear h hB hrun hbk hsz hfr hcell e1
  go_enter Tryz.func77, Tryz.ntmps77
  have hcells : ∀ j u, [Value.int .i64 k, .slice ac nc cc][j]? = some u → w1.cell? ((⟨B, 0, none⟩ : Addr).add j) = some u :=
    fun j u hu => Hfr.out.cell (World.news_of_block HB.out j u hu) fun h => h
  have hone : ∀ u ∈ [Value.int .i64 k, .slice ac nc cc], u.oneCell' = true := by intro u hu; simp at hu; rcases hu with rfl | rfl <;> rfl
  have hsz := Hsz.out
  rw [hz1] at hsz
  obtain ⟨w2, hr2, hb2, hg2⟩ := run_copy_bk (P := Tryz.prog) (w := w1) 124 124 3 128 i0 Tryz.underlying124 hinf w.heap.size (i * 2) (g.length + 1 - i) (c2 - i) ⟨B, 0, none⟩ 1 1 1 Hbk.out [.int .i64 k, .slice ac nc cc]
    (by simp only [Nat.min_def]; split <;> omega) (by rw [hz1]; rfl) hcells (by rw [hsz]; simp; omega) hone
  have hlw : b < w.heap.size := by have := (World.ownsRow.lt H.out.own b rfl).2; exact this
  have hfr2 : Fr w w2.drew Nil := (Hfr.out.grown hg2 fun j hj hlt => by cases hj; omega).drew
  have hcells2 : ∀ j u, (flatR (g.drop i))[j]? = some u → w2.drew.cell? ((⟨b, i * 2, none⟩ : Addr).add j) = some u := by
    intro j u hu
    refine hfr2.cell ?_ fun h => h
    have hjl := (List.getElem?_eq_some_iff.1 hu).1
    rw [length_flatR, List.length_drop] at hjl
    rw [Addr.add_lit, World.ownsRow.cellAt H.out.own _ (by omega)]
    rw [← flatR_drop, List.getElem?_drop] at hu
    exact hu
  have hone2 : ∀ u ∈ flatR (g.drop i), u.oneCell' = true := fun u hu => H.out.oneCell u (by rw [← flatR_drop] at hu; exact List.mem_of_mem_drop hu)
  have hlz : (Builtin.zeroCells (Value.agg #[Value.int IntKind.i64 0, Value.slice none 0 0]).cells (g.length + 1 - i)).toList.length = (g.length + 1 - i) * 2 := by
    rw [Array.length_toList, size_zeroCells]; rfl
  have hlr : rest.length = (c2 - (g.length + 1)) * 2 := by
    simp only [List.length_append, length_flatR, List.length_take, hlz] at hsz
    omega
  obtain ⟨w3, hr3, hb3, hg3⟩ := run_copy_bk (P := Tryz.prog) (w := w2.drew) 124 124 3 128 i0 Tryz.underlying124 hinf w.heap.size ((i + 1) * 2) (g.length - i) (c2 - (i + 1)) ⟨b, i * 2, none⟩ (g.length - i) (cap - i) (g.length - i) hb2 (flatR (g.drop i))
    (Nat.min_self _) (by rw [hz1, length_flatR, List.length_drop]) hcells2
    (by
      simp only [List.length_append, List.length_take, List.length_drop, length_flatR, hlz, hlr, List.length_cons, List.length_nil]
      omega) hone2
  generalize hZ : (Builtin.zeroCells (Value.agg #[Value.int IntKind.i64 0, Value.slice none 0 0]).cells (g.length + 1 - i)).toList = Z at *
  have hown : w3.ownsRow 0 128 2 (.slice (some ⟨w.heap.size, 0, none⟩) (g.length + 1) c2) (g.length + 1) (flatR (g.take i) ++ [.int .i64 k, .slice ac nc cc] ++ flatR (g.drop i)) := by
    refine own_of_bk hb3 hge hmx ?_ ?_
    · simp only [List.length_append, List.length_take, List.length_drop, length_flatR, hlz, hlr, List.length_cons, List.length_nil]
      omega
    · have hA : (flatR (g.take i)).length = i * 2 := by rw [length_flatR, List.length_take]; omega
      have h1 : (flatR (g.take i) ++ Z ++ rest).take (i * 2) = flatR (g.take i) := by
        rw [List.append_assoc, ← hA, List.take_left]
      rw [h1]
      have h2 : ((flatR (g.take i) ++ [Value.int .i64 k, .slice ac nc cc] ++ (flatR (g.take i) ++ Z ++ rest).drop (i * 2 + [Value.int .i64 k, .slice ac nc cc].length)).take ((i + 1) * 2)) = flatR (g.take i) ++ [Value.int .i64 k, .slice ac nc cc] := by
        have : (i + 1) * 2 = (flatR (g.take i) ++ [Value.int .i64 k, .slice ac nc cc]).length := by simp [hA]; omega
        rw [this, List.take_left]
      rw [h2]
      have : (g.length + 1) * 2 = (flatR (g.take i) ++ [Value.int .i64 k, .slice ac nc cc] ++ flatR (g.drop i)).length := by
        simp [length_flatR]; omega
      rw [this, List.take_left]
  have Hown := Lib.hid hown
  have Hf3 : Hid (Fr w w3 Nil) := hfr2.grown hg3 fun j hj hlt => by cases hj; omega
  have bb1 : (0 : Int) ≤ (i : Int) + 1 := by omega
  have bb2 : (i : Int) + 1 ≤ (g.length : Int) + 1 := by omega
  have bb3 : (0 : Int) ≤ (i : Int) := by omega
  have bb4 : (i : Int) ≤ (g.length : Int) := by omega
  have bb5 : ¬ c2 = i + 1 := by omega
  have bb6 : ¬ cap = i := by omega
  clear hb2 hg2 hb3 hg3 hown hfr2 hcells hcells2 hone hone2 hlz hlr hsz Hsz Hbk Hfr hZ
  have Hr3 := Lib.hid hr3
  clear hr3
  go_wp2_with (at_builtin; refine Lib.wpList_append_run _ rfl _ _ _ _ rfl _ _ rfl rfl _ _ Hrun.out ?_)
  have bw : IntKind.i64.wrap ((i : Int) + 1) = (i : Int) + 1 := IntWalk.i64_in _ (by omega)
  have bt : ((i : Int) + 1).toNat = i + 1 := by omega
  go_still_tail 8, (by kernel_rfl)
  change wpList _ _ _ _ _ w2.drew
  clear bw bt
  have hr3 := Hr3.out
  clear Hr3
  go_wp2_with fail
  go_ret
  exact ⟨w.heap.size, c2, rfl, Hown.out, Hf3.out.of_nil, .inr (Nat.le_refl _)⟩

set_option maxRecDepth 100000 in
set_option maxHeartbeats 400000 in
theorem insert_shift (b cap : Nat) (g : List GRow) (i : Nat) (hi : i < g.length) (hc : g.length + 1 ≤ cap) (k : Int) (ac : Option Addr) (nc cc B : Nat) (w : World) (h : RL w (.slice (some ⟨b, 0, none⟩) g.length cap) g)
    (hB : Bk w B 128 [.int .i64 k, .slice ac nc cc]) (hne : B ≠ b) (hlen : g.length ≤ 1000000) :
    Calls Tryz.prog 77 #[.slice (some ⟨b, 0, none⟩) g.length cap, .int .i64 i, .slice (some ⟨B, 0, none⟩) 1 1] w (InsRet (.slice (some ⟨b, 0, none⟩) g.length cap) g i [.int .i64 k, .slice ac nc cc] w) := by
  obtain ⟨i0, hinf, hz0, hz1, hz2⟩ := info_parts Tryz.infoR
  have hone : ∀ u ∈ [Value.int .i64 k, .slice ac nc cc], u.oneCell' = true := by intro u hu; simp at hu; rcases hu with rfl | rfl <;> rfl
  have hlw : b < w.heap.size := by have := (World.ownsRow.lt h.own b rfl).2; exact this
  have hcells2 : ∀ j u, (flatR (g.drop i))[j]? = some u → w.drew.cell? ((⟨b, i * 2, none⟩ : Addr).add j) = some u := by
    intro j u hu
    refine ((Fr.refl w Nil).drew).cell ?_ fun h => h
    have hjl := (List.getElem?_eq_some_iff.1 hu).1
    rw [length_flatR, List.length_drop] at hjl
    rw [Addr.add_lit, World.ownsRow.cellAt h.own _ (by omega)]
    rw [← flatR_drop, List.getElem?_drop] at hu
    exact hu
  have hone2 : ∀ u ∈ flatR (g.drop i), u.oneCell' = true := fun u hu => h.oneCell u (by rw [← flatR_drop] at hu; exact List.mem_of_mem_drop hu)
  obtain ⟨cs, hbk, _, hmx, hsz, htk⟩ := bk_of_own h.own
  obtain ⟨w2, hr2, hb2, hg2⟩ := run_copy_bk (P := Tryz.prog) (w := w.drew) 124 124 3 128 i0 Tryz.underlying124 hinf b ((i + 1) * 2) (g.length - i) (cap - (i + 1)) ⟨b, i * 2, none⟩ (g.length + 1 - i) (cap - i) (g.length - i) hbk.drew (flatR (g.drop i))
    (by simp only [Nat.min_def]; split <;> omega) (by rw [hz1, length_flatR, List.length_drop]) hcells2 (by rw [hsz, length_flatR, List.length_drop]; omega) hone2
  have hf2 : Fr w w2 (fun j => j = b) := ((Fr.refl w _).drew).grown hg2 fun j hj _ => by cases hj; rfl
  have hcells : ∀ j u, [Value.int .i64 k, .slice ac nc cc][j]? = some u → w2.cell? ((⟨B, 0, none⟩ : Addr).add j) = some u := by
    intro j u hu
    refine hf2.cell (World.news_of_block hB j u hu) ?_
    have : ((⟨B, 0, none⟩ : Addr).add j).block = B := by unfold Addr.add; split <;> rfl
    rw [this]; exact hne
  obtain ⟨w3, hr3, hb3, hg3⟩ := run_copy_bk (P := Tryz.prog) (w := w2) 124 124 3 128 i0 Tryz.underlying124 hinf b (i * 2) (g.length + 1 - i) (cap - i) ⟨B, 0, none⟩ 1 1 1 hb2 [.int .i64 k, .slice ac nc cc]
    (by simp only [Nat.min_def]; split <;> omega) (by rw [hz1]; rfl) hcells
    (by
      simp only [List.length_append, List.length_take, List.length_drop, length_flatR, hsz, List.length_cons, List.length_nil]
      omega) hone
  have hown : w3.ownsRow 0 128 2 (.slice (some ⟨b, 0, none⟩) (g.length + 1) cap) (g.length + 1) (flatR (g.take i) ++ [.int .i64 k, .slice ac nc cc] ++ flatR (g.drop i)) := by
    refine own_of_bk hb3 hc hmx ?_ ?_
    · simp only [List.length_append, List.length_take, List.length_drop, length_flatR, hsz, List.length_cons, List.length_nil]
      omega
    · have hA : (flatR (g.take i)).length = i * 2 := by rw [length_flatR, List.length_take]; omega
      have h0 : cs.take (i * 2) = flatR (g.take i) := by
        rw [← flatR_take, ← htk, List.take_take]
        congr 1; omega
      have h1 : (cs.take ((i + 1) * 2) ++ flatR (g.drop i) ++ cs.drop ((i + 1) * 2 + (flatR (g.drop i)).length)).take (i * 2) = flatR (g.take i) := by
        rw [List.append_assoc, List.take_append_of_le_length (by rw [List.length_take]; omega), List.take_take, ← h0]
        congr 1; omega
      rw [h1]
      have h2 : (cs.take ((i + 1) * 2) ++ flatR (g.drop i) ++ cs.drop ((i + 1) * 2 + (flatR (g.drop i)).length)).drop (i * 2 + [Value.int .i64 k, .slice ac nc cc].length) = flatR (g.drop i) ++ cs.drop ((i + 1) * 2 + (flatR (g.drop i)).length) := by
        rw [List.append_assoc]
        have : i * 2 + [Value.int .i64 k, .slice ac nc cc].length = (cs.take ((i + 1) * 2)).length := by
          rw [List.length_take, hsz]; simp; omega
        rw [this, List.drop_left]
      rw [h2]
      have : (g.length + 1) * 2 = (flatR (g.take i) ++ [Value.int .i64 k, .slice ac nc cc] ++ flatR (g.drop i)).length := by
        simp [length_flatR]; omega
      rw [this, ← List.append_assoc, List.take_left]
  have hov : ∀ lb cb, (callFunc 105 #[.slice (some ⟨B, 0, none⟩) 1 1, .slice (some ⟨b, (i + 1) * 2, none⟩) lb cb]).run Tryz.prog w = .ok (.value (.bool false)) w := fun lb cb => by
    rw [run_callFunc_extern Tryz.func105 (by kernel_rfl) (by kernel_rfl) (by kernel_rfl) (e := Extern.SlicesOverlaps.overlaps #[124, 124] #[4]) (by kernel_rfl),
      Lib.run_overlaps_apart w 124 4 128 Tryz.underlying124 2 (fun w => by rw [sizeOf_run hinf, hz1]) ⟨B, 0, none⟩ ⟨b, (i + 1) * 2, none⟩ 1 1 lb cb hne 128 128 2 (cap * 2)
        (by have := hB; unfold Bk at this; simp [World.shape?, this]) (by have := hbk; unfold Bk at this; simp [World.shape?, this, hsz]) (by omega) (hB.free 0) (hB.free 2)]
    rfl
  have Hown := Lib.hid hown
  have Hf3 : Hid (Fr w w3 (fun j => j = b)) := hf2.grown hg3 fun j hj _ => by cases hj; rfl
  have hne1 : ((i : Int) == (g.length : Int)) = false := by rw [beq_eq_false_iff_ne]; omega
  have hgt : (g.length : Int) + 1 ≤ (cap : Int) := by omega
  have bb1 : (0 : Int) ≤ (i : Int) + 1 := by omega
  have bb2 : (i : Int) + 1 ≤ (g.length : Int) + 1 := by omega
  have bb3 : (0 : Int) ≤ (i : Int) := by omega
  have bb4 : (i : Int) ≤ (g.length : Int) := by omega
  have bb7 : (i : Int) ≤ (g.length : Int) + 1 := by omega
  have bb5 : ¬ cap = i + 1 := by omega
  have bb6 : ¬ cap = i := by omega
  clear h hB hb2 hg2 hb3 hg3 hown hf2 hcells hcells2 hone hone2 hsz hbk htk hne
  have Hr3 := Lib.hid hr3
  have Hr2 := Lib.hid hr2
  clear hr3 hr2
  go_enter Tryz.func77, Tryz.ntmps77
  go_wp2_with (simp only [hov])
  have bw : IntKind.i64.wrap ((i : Int) + 1) = (i : Int) + 1 := IntWalk.i64_in _ (by omega)
  have bt : ((i : Int) + 1).toNat = i + 1 := by omega
  go_still_tail 8, (by kernel_rfl)
  change wpList _ _ _ _ _ w.drew
  clear bw bt hov
  have hr2 := Hr2.out
  have hr3 := Hr3.out
  clear Hr3 Hr2
  go_wp2_with fail
  go_ret
  exact ⟨b, cap, rfl, Hown.out, Hf3.out.mono fun j _ hj => by rw [hj]; rfl, .inl rfl⟩

theorem insert_any (lv : Value) (g : List GRow) (i : Nat) (hi : i ≤ g.length) (k : Int) (ac : Option Addr) (nc cc B : Nat) (w : World) (h : RL w lv g)
    (hB : Bk w B 128 [.int .i64 k, .slice ac nc cc]) (hne : lv.ownBlock ≠ some B) (hlen : g.length ≤ 1000000) :
    Calls Tryz.prog 77 #[lv, .int .i64 i, .slice (some ⟨B, 0, none⟩) 1 1] w (InsRet lv g i [.int .i64 k, .slice ac nc cc] w) := by
  by_cases he : i = g.length
  · subst he
    exact insert_end lv g k ac nc cc B w h hB hlen
  · rcases h.shape with ⟨_, h2⟩ | ⟨b, cap, rfl, hc⟩
    · rw [h2] at hi he; simp at hi; simp [hi] at he
    · by_cases hr : g.length + 1 ≤ cap
      · exact insert_shift b cap g i (by omega) hr k ac nc cc B w h hB (fun e => hne (by rw [e]; rfl)) hlen
      · exact insert_grow b cap g i (by omega) (by omega) hc k ac nc cc B w h hB hlen
end Go.Proofs.YtgpekgnhbccnoaaGreat
