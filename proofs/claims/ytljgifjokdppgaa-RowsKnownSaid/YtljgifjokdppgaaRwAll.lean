/-
  Walk of All.
  No condition but sizes.
-/
import Derived.Test.YtljgifjokdppgaaRwSet
namespace Go.Proofs.Ytljgifjokdppgaa
open Go Go.RowKit

theorem Try.infoR : (Try.prog.info? 40).map (fun i => (i.zero, i.size, i.bytes)) = some (some (.agg #[.int .i64 0, .slice none 0 0]), 2, 32) := by kernel_rfl

def rowsOf (g : List GRow) : List (Int × List Int) := g.map fun r => (r.key, r.cols)
/-- A list of rows of the call's own: new blocks, each its own. -/
structure NewRL (B : Nat) (w : World) (v : Value) (g : List GRow) : Prop where
  rl : RL w v g
  nodup : (rlBlocks v g).Nodup
  new : ∀ k ∈ rlBlocks v g, B ≤ k
def AllRet (rows : List (Int × List Int)) (w : World) (e : Ending) (w' : World) : Prop :=
  ∃ a cap g, e = .returned (.slice a g.length cap) ∧ NewRL w.heap.size w' (.slice a g.length cap) g ∧ rowsOf g = rows ∧ Fr w w' Nil
theorem NewRL.fr {B : Nat} {w w' : World} {v : Value} {g : List GRow} (h : NewRL B w v g) (hf : Fr w w' Nil) : NewRL B w' v g :=
  ⟨h.rl.fr hf fun _ _ h => h, h.nodup, h.new⟩
/-- A row is appended. -/
theorem NewRL.snoc {B : Nat} {w w1 w2 w3 : World} {v : Value} {g : List GRow} {b cap : Nat} {k : Int} {cv : Value} {xs : List Int}
    (h : NewRL B w v g) (hc : Cloned xs w cv w1) (hB : B ≤ w.heap.size) (hf2 : Fr w1 w2 Nil)
    (ho : w3.ownsRow 0 40 2 (.slice (some ⟨b, 0, none⟩) (g.length + 1) cap) (g.length + 1) (flatR g ++ [.int .i64 k, cv]))
    (hg : w2.grownBy w3 v.ownBlock) (hat : v.ownBlock = some b ∨ b = w2.heap.size) :
    NewRL B w3 (.slice (some ⟨b, 0, none⟩) (g.length + 1) cap) (g ++ [⟨k, cv, xs⟩]) := by
  have hvlt : ∀ j, v.ownBlock = some j → j < w.heap.size := fun j hj => (World.ownsRow.lt h.rl.own j hj).2
  have hw12 := hf2.size
  have hw01 := hc.2.2.size
  have hf3 : Fr w2 w3 (fun j => v.ownBlock = some j) := (Fr.refl w2 _).grown hg fun j hj _ => hj
  have hnc : ∀ j, cv.ownBlock = some j → w.heap.size ≤ j := hc.2.1
  have hcl : ∀ j, cv.ownBlock = some j → j < w1.heap.size := hc.1.lt
  have hn := h.nodup
  simp only [rlBlocks] at hn
  rw [List.nodup_append] at hn
  obtain ⟨_, hng, hd⟩ := hn
  have hgl : ∀ j ∈ g.flatMap (fun r => r.cv.ownBlock.toList), j < w.heap.size := fun j hj => h.rl.lt j (by simp [rlBlocks, hj])
  have hbg : b ∉ g.flatMap (fun r => r.cv.ownBlock.toList) := by
    intro hb
    rcases hat with h1 | h1
    · exact hd b (by simp [h1]) b hb rfl
    · have := hgl b hb; omega
  have hbc : cv.ownBlock ≠ some b := by
    intro hb
    have h1 := hnc b hb
    have h2 := hcl b hb
    rcases hat with h3 | h3
    · have := hvlt b h3; omega
    · omega
  refine ⟨⟨?_, ?_⟩, ?_, ?_⟩
  · rw [flatR_append]
    simpa [flatR] using ho
  · intro r hr
    rw [List.mem_append] at hr
    rcases hr with hr | hr
    · have h1 := ((h.rl.cols r hr).fr hc.2.2 fun _ _ h => h).fr hf2 fun _ _ h => h
      refine h1.fr hf3 fun j hj hv => ?_
      exact hd j (by simp [hv]) j (by simp only [List.mem_flatMap]; exact ⟨r, hr, by simp [hj]⟩) rfl
    · simp only [List.mem_singleton] at hr
      subst hr
      refine (hc.1.fr hf2 fun _ _ h => h).fr hf3 fun j hj hv => ?_
      have := hnc j hj
      have := hvlt j hv
      omega
  · simp only [rlBlocks, List.flatMap_append, List.flatMap_cons, List.flatMap_nil, List.append_nil]
    show ([b] ++ _).Nodup
    rw [List.nodup_append]
    refine ⟨by simp, ?_, ?_⟩
    · rw [List.nodup_append]
      refine ⟨hng, by cases cv.ownBlock <;> simp, ?_⟩
      intro j hj j' hj' e
      subst e
      have := hgl j hj
      have := hnc j (by simpa using hj')
      omega
    · intro j hj j' hj' e
      subst e
      simp only [List.mem_singleton] at hj
      subst hj
      rw [List.mem_append] at hj'
      rcases hj' with hj' | hj'
      · exact hbg hj'
      · exact hbc (by simpa using hj')
  · intro j hj
    simp only [rlBlocks, List.flatMap_append, List.flatMap_cons, List.flatMap_nil, List.append_nil, List.mem_append] at hj
    rcases hj with hj | hj | hj
    · simp [Value.ownBlock] at hj
      subst hj
      rcases hat with h1 | h1
      · exact h.new j (by simp [rlBlocks, h1])
      · omega
    · exact h.new j (by simp only [rlBlocks, List.mem_append]; exact .inr hj)
    · have := hnc j (by simpa using hj); omega

set_option maxRecDepth 100000 in
set_option maxHeartbeats 400000 in
theorem all_any (R : GRows) (i : Int) (w : World) (h : RowsAt w R) (hg : Good R.mod) :
    Calls Try.prog 14 #[R.val, .int .i64 i] w (AllRet (mtab R.mod i).2 w) := by
  obtain ⟨i0, hi, hz0, hz1, hz2⟩ := info_parts Try.infoR
  have H := Lib.hid h
  have hl : R.tabs.length ≤ 1000000 := by have := hg.few; simp [GRows.mod] at this; omega
  have Hg := Lib.hid (hg.at i)
  clear h hg
  go_enter Try.func14, Try.ntmps14
  go_wp2_with fail
  refine (table_any R i _ H.out hl).mono ?_
  rintro e w1 ⟨t, rfl, ht, hf, hm, hin⟩
  rw [← hm] at Hg
  have Hm := Lib.hid hm
  clear hm hin
  have Ht := Lib.hid ht
  have Hf := Lib.hid hf
  have q1 := ht.blk.cell 1
  clear ht hf
  have hlen := Hg.out.few'
  obtain ⟨a0, cap, hlv⟩ := Ht.out.rl.shape2
  rw [hlv] at q1
  have Hlv := Lib.hid hlv
  clear hlv
  go_wp2_with fail
  go_loopw [5, 15] (fun v vi wr => ∃ (a : Option Addr) (cap : Nat) (g : List GRow), g.length ≤ t.rows.length ∧ vi = .int .i64 g.length ∧ v = .slice a g.length cap ∧ NewRL w1.heap.size wr v g ∧ rowsOf g = (rowsOf t.rows).take g.length ∧ Fr w1 wr Nil)
    (fun _ vi _ => t.rows.length - (intOf vi).toNat)
  case atStart => exact ⟨none, 0, [], by simp, rfl, rfl, ⟨⟨World.ownsRow_nil _ _ _ _, fun r hr => by cases hr⟩, List.nodup_nil, fun k hk => by cases hk⟩, rfl, Fr.refl _ _⟩
  case round =>
    obtain ⟨al, cl, g, hk, rfl, rfl, hnew, hrows, hfr⟩ := hrel
    have Hfr := Lib.hid hfr
    have Hnew := Lib.hid hnew
    have Hrows := Lib.hid hrows
    clear hfr hnew hrows
    by_cases hlt : g.length < t.rows.length
    · have hr := List.getElem?_eq_getElem hlt
      generalize t.rows[g.length] = r at hr
      have HT : TabAt wr t := Ht.out.fr Hfr.out fun _ _ h => h
      obtain ⟨b, capb, hlv, _⟩ : ∃ b cap, t.lv = .slice (some ⟨b, 0, none⟩) t.rows.length cap ∧ True := by
        rcases HT.rl.shape with ⟨_, h2⟩ | ⟨b, cap, h1, _⟩
        · rw [h2] at hlt; simp at hlt
        · exact ⟨b, cap, h1, trivial⟩
      rw [Hlv.out] at hlv
      simp only [Value.slice.injEq, true_and] at hlv
      obtain ⟨rfl, rfl⟩ := hlv
      have hrl := HT.rl
      rw [Hlv.out] at hrl
      have p0 := hrl.key _ r hr
      have p1 := hrl.cv _ r hr
      have hcl := hrl.cols r (List.mem_of_getElem? hr)
      have hw : r.cols.length ≤ 1000000 := by
        have := Hg.out.width' r (List.mem_of_getElem? hr)
        have h3 := Hg.out.le
        simp only [GTab.mod] at h3
        omega
      obtain ⟨ac, capc, hcv⟩ := hcl.shape
      rw [hcv] at hcl p1
      have Hcl := Lib.hid hcl
      have hlt2 : (g.length : Int) < (t.rows.length : Int) := by omega
      have Hr := Lib.hid hr
      clear hrl hcl hcv hr HT
      go_wp2_with fail
      refine (rowclone_any _ _ r.cols _ (Hcl.out.at.fr ((Fr.refl wr Nil).alloc _) fun _ _ h => h) hw).mono ?_
      rintro e w2 ⟨a2, c2, rfl, hclo⟩
      have Hclo := Lib.hid hclo
      clear hclo p0 p1
      go_wp2_with (at_builtin; refine wpList_append_lies _ rfl _ _ _ rfl 0 40 i0 _ 2 32 Try.underlying37 hi hz0 hz1 hz2 rfl (by omega) _ g.length (flatR g) rfl ?c1 ⟨w2.heap.size, 0, none⟩ 1 1 [.int .i64 r.key, .slice a2 r.cols.length c2] rfl rfl ?c2 ?c3 (by omega) ?c4 ?c5 (Nat.zero_le _) (w2.heap.size + 1) (by simp) ?_)
      case c1 =>
        exact ((((Fr.refl wr Nil).alloc _).trans0 Hclo.out.2.2).alloc _).own Hnew.out.rl.own fun _ _ h => h
      case c2 => exact World.news_of_block (heap_alloc_new w2 _)
      case c3 => intro u hu; simp at hu; rcases hu with rfl | rfl <;> rfl
      case c4 => unfold maxLen; omega
      case c5 => omega
      intro b2 cap2 w3 ho hgr hat _
      have Ho := Lib.hid ho
      have Hgr := Lib.hid hgr
      have Hat := Lib.hid hat
      clear ho hgr hat
      go_wp2_with fail
      go_roundw
      case rel =>
        refine ⟨some ⟨b2, 0, none⟩, cap2, g ++ [⟨r.key, .slice a2 r.cols.length c2, r.cols⟩], by simp; omega, by simp, by simp, ?_, ?_, ?_⟩
        · have hN := (Hnew.out.fr ((Fr.refl wr Nil).alloc (Obj.cells #[Value.int IntKind.i64 r.key, Value.slice ac r.cols.length capc] 40)))
          have hB : w1.heap.size ≤ (wr.alloc (Obj.cells #[Value.int IntKind.i64 r.key, Value.slice ac r.cols.length capc] 40)).heap.size := by
            have h2 := Hfr.out.size
            simp; omega
          refine hN.snoc Hclo.out hB ((Fr.refl w2 Nil).alloc _) Ho.out Hgr.out ?_
          rcases Hat.out with h | h
          · exact .inl (by rw [← h])
          · exact .inr (by simpa using h)
        · show rowsOf (g ++ [_]) = _
          have h1 : (rowsOf t.rows)[g.length]? = some (r.key, r.cols) := by simp [rowsOf, Hr.out]
          have h2 : (g ++ [GRow.mk r.key (.slice a2 r.cols.length c2) r.cols]).length = g.length + 1 := by simp
          rw [h2, List.take_add_one, h1, ← Hrows.out]
          simp [rowsOf]
        · have h1 := (((Fr.refl wr Nil).alloc (Obj.cells #[Value.int IntKind.i64 r.key, Value.slice ac r.cols.length capc] 40)).trans0 Hclo.out.2.2).alloc (Obj.cells #[Value.int IntKind.i64 r.key, Value.slice a2 r.cols.length c2] 40)
          refine (Hfr.out.trans0 h1).grown Hgr.out fun j hj hlt => ?_
          have h3 := Hnew.out.new j (by simp only [rlBlocks, List.mem_append, Option.mem_toList]; exact .inl hj)
          omega
      case measure => simp [intOf]; omega
    · go_wp2_with fail
      go_ret
      refine ⟨al, cl, g, rfl, ⟨Hnew.out.rl, Hnew.out.nodup, fun j hj => Nat.le_trans Hf.out.size (Hnew.out.new j hj)⟩, ?_, Hf.out.trans0 Hfr.out⟩
      rw [Hrows.out, ← Hm.out, List.take_of_length_le (by simp [rowsOf]; omega)]
      rfl
end Go.Proofs.Ytljgifjokdppgaa
