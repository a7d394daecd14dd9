/-
  Walk of Copy: tables of the call's own that read the same.
  No condition but sizes.
-/
import Derived.Test.YtgpekgnhbccnoaaGreatPkZb10
import Derived.Deep.RegionLawGrows
import Derived.Deep.AppendLies
namespace Go.Proofs.YtgpekgnhbccnoaaGreat
open Go Go.RowKit
attribute [local go_sem ↓] Go.wp_at_zero Go.wp_at_succ

def CopyRet (M : List MTab) (w : World) (e : Ending) (w' : World) : Prop :=
  ∃ R, e = .returned R.val ∧ Fresh w.heap.size w' R ∧ R.mod = M ∧ Fr w w' Nil

theorem copy_add {B : Nat} {wr w5 w6 : World} {T : GRows} {n b cap5 cap2 : Nat} {a5 : Option Addr} {g : List GRow} (h : Fresh B wr T) (hB : B ≤ wr.heap.size)
    (hnew : NewRL wr.heap.size w5 (.slice a5 g.length cap5) g) (hf : Fr wr w5 Nil)
    (ho : w6.ownsRow 0 134 1 (.slice (some ⟨b, 0, none⟩) (T.tabs.length + 1) cap2) (T.tabs.length + 1) (ptrs T.tabs ++ [.pointer (some ⟨w5.heap.size, 0, none⟩)]))
    (hg : ((w5.alloc (Obj.cells #[.int .i64 n, Value.slice a5 g.length cap5] 137)).alloc (Obj.cells #[.pointer (some ⟨w5.heap.size, 0, none⟩)] 134)).grownBy w6 T.tv.ownBlock)
    (hb : T.tv.ownBlock = some b ∨ b = w5.heap.size + 2) :
    Fresh B (w6.setCell ⟨T.rb, 0, none⟩ (.slice (some ⟨b, 0, none⟩) (T.tabs.length + 1) cap2)) ⟨T.rb, .slice (some ⟨b, 0, none⟩) (T.tabs.length + 1) cap2, T.tabs ++ [⟨w5.heap.size, n, .slice a5 g.length cap5, g⟩]⟩ := by
  have hs := hf.size
  have hlt := hnew.rl.lt
  refine h.add hB ((hf.alloc _).alloc _) (t := ⟨w5.heap.size, n, .slice a5 g.length cap5, g⟩) ⟨?_, ?_⟩ ?_ ?_ ho hg ?_
  · exact (Bk.new w5 137 #[.int .i64 n, Value.slice a5 g.length cap5]).alloc _
  · exact hnew.rl.fr (((Fr.refl w5 Nil).alloc _).alloc _) fun _ _ h => h
  · exact List.nodup_cons.2 ⟨fun hm => absurd (hlt _ hm) (Nat.lt_irrefl _), hnew.nodup⟩
  · intro k hk
    simp only [tBlocks, List.mem_cons] at hk
    rcases hk with rfl | hk
    · exact hs
    · exact hnew.new k hk
  · refine hb.imp id fun e => ?_
    simp; omega

set_option maxRecDepth 100000 in
set_option maxHeartbeats 1000000 in
theorem copy_any (R : GRows) (w : World) (h : RowsAt w R) (hg : Good R.mod) : Calls Tryz.prog 27 #[R.val] w (CopyRet R.mod w) := by
  obtain ⟨i0, hinf, hz0, hz1, hz2⟩ := info_parts Tryz.infoP
  have hl : R.tabs.length ≤ 1000000 := hg.lenR
  obtain ⟨a, cap, htv⟩ := h.shape2
  have q0 := h.root.cell 0
  rw [htv] at q0
  have hrblt := h.root.lt
  have q1 := fun o => ((Fr.refl w Nil).alloc o).cell q0 (fun h => h)
  have Htv := Lib.hid htv
  have H := Lib.hid h
  have Hg := Lib.hid hg
  clear h hg htv hrblt
  go_enter Tryz.func27, Tryz.ntmps27
  go_wp2_with fail
  go_loopw [4, 5, 15] (fun _ _ vi wr => ∃ (k : Nat) (T : GRows), T.rb = w.heap.size ∧ k ≤ R.tabs.length ∧ vi = .int .i64 k ∧ Fresh w.heap.size wr T ∧ T.mod = R.mod.take k ∧ T.tabs.length = k ∧ Fr w wr Nil)
    (fun _ _ vi _ => R.tabs.length - (intOf vi).toNat)
  case atStart =>
    refine ⟨0, ⟨w.heap.size, .slice none 0 0, []⟩, rfl, by omega, rfl, ⟨⟨Bk.new _ _ _, World.ownsRow_nil _ _ _ _, fun t ht => by cases ht⟩, by simp [gBlocks, Value.ownBlock], fun k hk => by simp [gBlocks, Value.ownBlock] at hk; omega⟩, rfl, rfl, (Fr.refl _ _).alloc _⟩
  case round =>
    obtain ⟨k, T, hrb, hk, rfl, hfr, hmod, hlen, hf⟩ := hrel
    have Hrb := Lib.hid hrb
    have Hfr := Lib.hid hfr
    have Hmod := Lib.hid hmod
    have Hlen := Lib.hid hlen
    have Hf := Lib.hid hf
    clear hrb hfr hmod hlen hf
    by_cases hlt : k < R.tabs.length
    · have hn := List.getElem?_eq_getElem hlt
      generalize R.tabs[k] = t at hn
      have HR : RowsAt wr R := H.out.fr Hf.out fun _ _ h => h
      obtain ⟨b, capb, hv, _⟩ : ∃ b cap, R.tv = .slice (some ⟨b, 0, none⟩) R.tabs.length cap ∧ True := by
        rcases HR.shape with ⟨_, h2⟩ | ⟨b, cap, h1, _⟩
        · rw [h2] at hlt; simp at hlt
        · exact ⟨b, cap, h1, trivial⟩
      have p0 := HR.ptr hv k t hn
      rw [Htv.out] at hv
      simp only [Value.slice.injEq, true_and] at hv
      obtain ⟨rfl, rfl⟩ := hv
      have ht : TabAt wr t := HR.tabs t (List.mem_of_getElem? hn)
      have p1 := ht.blk.cell 0
      have HRd := Lib.hid (HR.fr ((Fr.refl wr Nil).drew) fun _ _ h => h)
      have Hn := Lib.hid hn
      have Hm : Hid (mtab R.mod (k : Int) = t.mod) := mtab_in (by omega) (by simpa using hn)
      obtain ⟨at_, capt, hTv⟩ := Hfr.out.rows.shape2
      have r0 := Hfr.out.rows.root.cell 0
      rw [hTv, Hrb.out] at r0
      have HTv := Lib.hid hTv
      have HB := Lib.hid ((Hfr.out.rows.root).fr ((Fr.refl wr Nil).drew) fun h => h)
      rw [HTv.out, Hrb.out] at HB
      have HO : Hid (World.ownsRow wr.drew 0 134 1 (.slice at_ T.tabs.length capt) T.tabs.length (ptrs T.tabs)) := by
        have := ((Fr.refl wr Nil).drew).own Hfr.out.rows.own fun _ _ h => h
        rw [HTv.out] at this
        exact this
      have HNE : Hid (∀ j, (Value.slice at_ T.tabs.length capt).ownBlock = some j → j ≠ w.heap.size) := by
        rw [← HTv.out, ← Hrb.out]
        intro j hj e
        exact (List.nodup_cons.1 Hfr.out.nodup).1 (by simp [← e, hj])
      have hlt2 : (k : Int) < (R.tabs.length : Int) := by omega
      have Htab := Lib.hid ht
      have hc4 : Hid (T.tabs.length + 1 ≤ maxLen) := by have := Hlen.out; show _ ≤ _; unfold maxLen; omega
      have hc5 : Hid ((T.tabs.length + 1) * 8 ≤ 140737488355328) := by have := Hlen.out; show _ ≤ _; omega
      clear hTv hn ht HR
      go_wp2_with fail
      go_region_law (first
        | (go_simp
           go_at_call 64
           refine (all_any R k _ HRd.out Hg.out).mono ?_
           rintro e w5 ⟨a5, cap5, g, rfl, hnew, hrows, hf5⟩
           have hB5 := HB.out.fr hf5 (fun h => h)
           have z0 := hB5.cell 0
           have z1 := fun o => ((Fr.refl w5 Nil).alloc o).cell z0 (fun h => h)
           have z2 := fun o o' => (((Fr.refl w5 Nil).alloc o).alloc o').cell z0 (fun h => h)
           have z3 := ((Fr.refl wr Nil).drew.trans0 hf5).cell p1 (fun h => h)
           have hO5 := Lib.hid (fun o o' => ((hf5.alloc o).alloc o').own HO.out (fun _ _ h => h))
           have hB6 := Lib.hid (fun (o o' : Obj) (w6 : World) (hg : ((w5.alloc o).alloc o').grownBy w6 (Value.slice at_ T.tabs.length capt).ownBlock) => ((hB5.alloc o).alloc o').fr ((Fr.refl _ (fun j => (Value.slice at_ T.tabs.length capt).ownBlock = some j)).grown hg fun j hj _ => hj) (fun h => HNE.out _ h rfl))
           have hN5 : Hid (∀ (t : Int) (j : Nat) (u : Value), [Value.pointer (some ⟨w5.heap.size, 0, none⟩)][j]? = some u → ((w5.alloc (Obj.cells #[.int .i64 t, Value.slice a5 g.length cap5] 137)).alloc (Obj.cells #[.pointer (some ⟨w5.heap.size, 0, none⟩)] 134)).cell? ((⟨w5.heap.size + 1, 0, none⟩ : Addr).add j) = some u) := by
             intro t
             have := World.news_of_block (heap_alloc_new (w5.alloc (Obj.cells #[.int .i64 t, Value.slice a5 g.length cap5] 137)) (Obj.cells #[.pointer (some ⟨w5.heap.size, 0, none⟩)] 134))
             simpa using this)
        | (refine step_append_lies _ (by rfl) _ _ _ (by rfl) 0 134 i0 _ 1 8 Tryz.underlying131 hinf hz0 hz1 hz2 rfl (by omega) (.slice at_ T.tabs.length capt) T.tabs.length (ptrs T.tabs) (by rfl) (hO5.out _ _) ⟨w5.heap.size + 1, 0, none⟩ 1 1 [.pointer (some ⟨w5.heap.size, 0, none⟩)] (by rfl) (by rfl) (hN5.out t.n) (by simp [Value.oneCell']) (by omega) hc4.out hc5.out (Nat.zero_le _) (w5.heap.size + 2) (by simp) ?_
           intro b2 cap2 w6 ho hgr hat _
           have y6 := hB6.out _ _ _ hgr
           have y7 := y6.cell 0
           have y8 := y6.free 0))
      all_goals
        have Hnew := Lib.hid hnew
        have Hrows := Lib.hid hrows
        have Hf5 := Lib.hid hf5
        have Ho := Lib.hid ho
        have Hgr := Lib.hid hgr
        have Hat := Lib.hid hat
        clear hnew hrows hf5 ho hgr hat z0 z1 z2 z3 hO5 hN5 hB5 hB6 y6 y7 y8 p0 p1 q0 q1 r0
        go_wp2_with fail
        refine ⟨⟨k + 1, ⟨T.rb, .slice (some ⟨b2, 0, none⟩) (T.tabs.length + 1) cap2, T.tabs ++ [⟨w5.heap.size, t.n, .slice a5 g.length cap5, g⟩]⟩, Hrb.out, by omega, by go_num, ?_, ?_, ?_, ?_⟩, by simp [intOf]; omega⟩
        · have := copy_add Hfr.out Hf.out.size Hnew.out (((Fr.refl wr Nil).drew).trans0 Hf5.out) Ho.out (by rw [HTv.out]; exact Hgr.out) (by rw [HTv.out]; exact Hat.out)
          rw [Hrb.out] at this ⊢
          exact this
        · show List.map GTab.mod (T.tabs ++ [_]) = _
          have hm : List.map GTab.mod T.tabs = R.mod.take k := Hmod.out
          have h2 : R.mod[k]? = some t.mod := by simp [GRows.mod, Hn.out]
          have h3 : rowsOf g = t.mod.2 := by rw [Hrows.out, Hm.out]
          have h4 : GTab.mod ⟨w5.heap.size, t.n, .slice a5 g.length cap5, g⟩ = t.mod := Prod.ext rfl h3
          rw [List.map_append, hm, List.take_add_one, h2]
          simp [h4]
        · simp [Hlen.out]
        · refine ((((Hf.out.trans0 ((Fr.refl wr Nil).drew)).trans0 Hf5.out).alloc _ |>.alloc _).grown Hgr.out fun j hj hlt => ?_).setCell (fun hlt => ?_) _
          · have := Hfr.out.new j (by simp [gBlocks, HTv.out, hj])
            omega
          · have h2 : w.heap.size < w.heap.size := hlt
            omega
    · go_wp2_with fail
      obtain rfl : k = R.tabs.length := by omega
      go_ret
      refine ⟨T, by simp [GRows.val, Hrb.out], Hfr.out, ?_, Hf.out⟩
      rw [Hmod.out, List.take_of_length_le (by simp [GRows.mod])]

set_option maxRecDepth 100000 in
set_option maxHeartbeats 400000 in
theorem copy_nil (w : World) : Calls Tryz.prog 27 #[.pointer none] w fun e w' => e = .returned (.pointer none) ∧ w = w' := by
  go_enter Tryz.func27, Tryz.ntmps27
  go_wp2_with fail
  go_ret
  exact ⟨rfl, rfl⟩

theorem api_copy {w : World} {rb : Nat} {M : List MTab} {S : Nat → Prop} (h : Rws w rb M S) (hg : Good M) :
    Calls Tryz.prog 27 #[rptr rb] w fun e w' => ∃ rb' S', e = .returned (rptr rb') ∧ Rws w' rb' M S' ∧ (∀ k, S' k → w.heap.size ≤ k) ∧ Fr w w' Nil := by
  obtain ⟨R, rfl, h2, h3, rfl, h5⟩ := h
  refine (copy_any R w h2 hg).mono fun e w' ⟨T, he, hT, hm, hf⟩ => ?_
  exact ⟨T.rb, fun k => k ∈ gBlocks T, he, ⟨T, rfl, hT.rows, hT.nodup, hm, fun _ => Iff.rfl⟩, hT.new, hf⟩
end Go.Proofs.YtgpekgnhbccnoaaGreat
