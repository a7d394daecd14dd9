/-
  Walk of leaves: a number is taken out of the queue where it waits.
  No condition but sizes.
-/
import Derived.Test.YtokeciekncincaaGreatPkF13
import Derived.Test.YtokeciekncincaaGreatPkF20
namespace Go.Proofs.YtokeciekncincaaGreat
open Go Go.RowKit Go.Maps

theorem upL_dropA (H W : List LkE) (who : Int) (s : Spot) : upL H (dropA W who) s = (upL H W s).filter fun e => e.who != who := by
  unfold upL dropA
  rw [List.filter_filter, List.filter_filter]
  refine List.filter_congr fun e _ => ?_
  rw [Bool.and_comm]
theorem restL_dropA (H W : List LkE) (who : Int) (s : Spot) : restL H (dropA W who) s = (restL H W s).filter fun e => e.who != who := by
  unfold restL dropA
  rw [List.filter_filter, List.filter_filter]
  refine List.filter_congr fun e _ => ?_
  rw [Bool.and_comm]
section
variable {w w' : World} {lb sb wb : Nat} {D : LkS} {V : List (Int × Spot)} {G : List (Spot × GX)} {S : Nat → Prop}
theorem LkV.leave {s : Spot} {g : GX} {e : LkE} {uv rv : Value} (h : LkV w lb sb wb D V G S) (hD : LInv D) (he : e ∈ D.W) (hes : e.s = s) (hg : (s, g) ∈ G) (hbox : Bk w' g.xb 72 [.map (some g.hb), uv, rv])
    (hm : MapAt Tryz.prog 2 ikey modV w' g.hb (holdsOf D.H s)) (hu : OwnH w' uv (notOf e.who (prs (upL D.H D.W s)))) (hr : OwnH w' rv (notOf e.who (prs (restL D.H D.W s))))
    (hu2 : ∀ k, uv.ownBlock = some k → g.uv.ownBlock = some k) (hr2 : ∀ k, rv.ownBlock = some k → g.rv.ownBlock = some k) (hf : Fr w w' g.own) :
    ∃ G', LkV w' lb sb wb { D with W := dropA D.W e.who } V G' S ∧ ∃ g', (s, g') ∈ G' := by
  have hx := h.at_ _ hg
  have hown : ∀ k, (⟨g.xb, g.hb, uv, rv⟩ : GX).own k → g.own k := by
    rintro k (rfl | rfl | hk | hk)
    · exact .inl rfl
    · exact .inr (.inl rfl)
    · exact .inr (.inr (.inl (hu2 k hk)))
    · exact .inr (.inr (.inr (hr2 k hk)))
  have hx' : XAt w' ⟨g.xb, g.hb, uv, rv⟩ (holdsOf D.H s) (prs (upL D.H (dropA D.W e.who) s)) (prs (restL D.H (dropA D.W e.who) s)) := by
    refine ⟨hbox, hm, ?_, ?_, fun k hk hk2 => hx.far k (hu2 k hk) (hr2 k hk2)⟩
    · rw [upL_dropA, prs_notOf]; exact hu
    · rw [restL_dropA, prs_notOf]; exact hr
  have h1 := LkG.turn (h' := holdsOf D.H) (u' := fun s' => prs (upL D.H (dropA D.W e.who) s')) (r' := fun s' => prs (restL D.H (dropA D.W e.who) s')) h hg (g' := ⟨g.xb, g.hb, uv, rv⟩) rfl hx' hf (fun k hk => .inl (hown k hk)) (fun s' hs' => by
    have hne : e.s ≠ s' := by rw [hes]; exact fun h => hs' h.symm
    refine ⟨rfl, ?_, ?_⟩
    · show prs (upL D.H (dropA D.W e.who) s') = _
      rw [upL_dropA, filter_other hD he hne fun x hx => queueL_of D.H D.W s' x (List.mem_append.2 (.inl hx))]
    · show prs (restL D.H (dropA D.W e.who) s') = _
      rw [restL_dropA, filter_other hD he hne fun x hx => queueL_of D.H D.W s' x (List.mem_append.2 (.inr hx))])
  have h2 := h1.more (T := S) (fun k hk => hk.elim id fun hk => h.inX _ hg k (hown k hk)) fun k hk => Nat.lt_of_lt_of_le (h.lt k hk) hf.size
  exact ⟨_, h2, _, List.mem_map.2 ⟨(s, g), hg, if_pos rfl⟩⟩
end
theorem wish_pairs {W : List LkE} {who : Int} : (wishL W who = none → ((pairsW W).map Prod.fst).contains who = false) ∧ ∀ e, wishL W who = some e → ((pairsW W).map Prod.fst).contains who = true ∧ getV (pairsW W) who (0, false, 0) = e.s := by
  induction W with
  | nil => exact ⟨fun _ => rfl, fun e h => by cases h⟩
  | cons x W ih =>
    unfold wishL pairsW getV at *
    rw [List.find?_cons]
    simp only [List.map_cons, List.find?_cons, List.contains_cons]
    by_cases h : x.who = who
    · have h1 : (x.who == who) = true := by rw [beq_iff_eq]; exact h
      have h2 : (who == x.who) = true := by rw [beq_iff_eq]; exact h.symm
      rw [h1, h2, decide_eq_true h]
      exact ⟨fun h => (by cases h), fun e h => by cases h; exact ⟨rfl, rfl⟩⟩
    · have h1 : (x.who == who) = false := by rw [beq_eq_false_iff_ne]; exact h
      have h2 : (who == x.who) = false := by rw [beq_eq_false_iff_ne]; exact fun e => h e.symm
      rw [h1, h2, decide_eq_false h, Bool.false_or]
      exact ih
/-- .. in whose map these spots stand. -/
def LkI (w : World) (lb : Nat) (D : LkS) (S : Nat → Prop) (p : Spot → Prop) : Prop := ∃ sb wb G, LkV w lb sb wb D (pairsW D.W) G S ∧ ∀ s, p s → ∃ g, (s, g) ∈ G
/-- What is handed back, and what is left. -/
def LeavesRet (lb : Nat) (D : LkS) (who : Int) (S : Nat → Prop) (w : World) (e : Ending) (w' : World) : Prop :=
  (wishL D.W who = none ∧ e = .returned (.tuple #[spV (0, false, 0), .bool false]) ∧ LkA w' lb D S ∧ Fr w w' S) ∨
  ∃ x, wishL D.W who = some x ∧ e = .returned (.tuple #[spV x.s, .bool true]) ∧ LkI w' lb { D with W := dropA D.W who } S (fun s => s = x.s) ∧ Fr w w' S
set_option maxRecDepth 100000 in
set_option maxHeartbeats 4000000 in
theorem leaves_any {lb : Nat} {D : LkS} {S : Nat → Prop} {N : Nat} (who : Int) (w : World) (h : LkA w lb D S) (hD : DOk N D) (hN : N ≤ 100000) (hw : (Lit.int .i64 who).wf = true) :
    Calls Tryz.prog 36 #[lkp lb, .int .i64 who] w (LeavesRet lb D who S w) := by
  obtain ⟨sb, wb, G, hv⟩ := h
  obtain ⟨w0, hw0⟩ : ∃ w0, w.alloc (.cells #[.int .i64 0, .bool false, .int .i64 0] 30) = w0 := ⟨_, rfl⟩
  have hf0 : Fr w w0 Nil := by rw [← hw0]; exact (Fr.refl w Nil).alloc _
  have hv0 := hv.fr0 hf0
  have hlk := look_wait hv0.waits hw
  have q2 : w0.cell? ⟨lb, 2, none⟩ = some (.map (some wb)) := hv0.root.cell 2
  have hb4 : Bk w0 w.heap.size 30 [.int .i64 0, .bool false, .int .i64 0] := by rw [← hw0]; exact Bk.new w _ _
  have hres : ∀ (W : World) (sp : Spot), Bk W w.heap.size 30 [.int .i64 0, .bool false, .int .i64 0] → Bk (((W.setCell ⟨w.heap.size, 0, none⟩ (.int .i64 sp.1)).setCell ⟨w.heap.size, 1, none⟩ (.bool sp.2.1)).setCell ⟨w.heap.size, 2, none⟩ (.int .i64 sp.2.2)) w.heap.size 30 [.int .i64 sp.1, .bool sp.2.1, .int .i64 sp.2.2] :=
    fun W sp hb => ((hb.set 0 (.int .i64 sp.1)).set 1 (.bool sp.2.1)).set 2 (.int .i64 sp.2.2)
  have hresf : ∀ (W : World) (sp : Spot), Fr W (((W.setCell ⟨w.heap.size, 0, none⟩ (.int .i64 sp.1)).setCell ⟨w.heap.size, 1, none⟩ (.bool sp.2.1)).setCell ⟨w.heap.size, 2, none⟩ (.int .i64 sp.2.2)) (fun k => k = w.heap.size) :=
    fun W sp => ((Fr.store W _ _ _).trans (Fr.store _ _ _ _) fun _ _ h => h).trans (Fr.store _ _ _ _) fun _ _ h => h
  have HRES := Lib.hid hres
  have HRESF := Lib.hid hresf
  clear hres hresf
  have HV := Lib.hid hv
  have HF0 := Lib.hid hf0
  have HB4 := Lib.hid hb4
  have HD := Lib.hid hD
  have HW := Lib.hid hw
  have HN := Lib.hid hN
  cases hwi : wishL D.W who with
  | none =>
    have HWI := Lib.hid hwi
    have hc := (wish_pairs (W := D.W) (who := who)).1 hwi
    rw [hc] at hlk
    obtain ⟨gv, hgv⟩ : ∃ x, getV (pairsW D.W) who (0, false, 0) = x := ⟨_, rfl⟩
    have hgz : gv = (0, false, 0) := by rw [← hgv]; exact getV_none (by rw [← hc])
    rw [hgv, hgz] at hlk
    clear hv hf0 hv0 hb4 hD hw hN hwi hc hgv hgz
    go_enter Tryz.func36, Tryz.ntmps36
    have hb1 := HB4.out.alloc (.cells #[.int .i64 0, .bool false, .int .i64 0] 30)
    have c0 : (w0.alloc (.cells #[.int .i64 0, .bool false, .int .i64 0] 30)).cell? ⟨w.heap.size, 0, none⟩ = some (.int .i64 0) := hb1.cell 0
    have c1 : (w0.alloc (.cells #[.int .i64 0, .bool false, .int .i64 0] 30)).cell? ⟨w.heap.size, 1, none⟩ = some (.bool false) := hb1.cell 1
    have c2 : (w0.alloc (.cells #[.int .i64 0, .bool false, .int .i64 0] 30)).cell? ⟨w.heap.size, 2, none⟩ = some (.int .i64 0) := hb1.cell 2
    have f0 := hb1.free 0
    have f1 := hb1.free 1
    have f2 := hb1.free 2
    have HB1 := Lib.hid hb1
    clear hb1
    go_wp2_with fail
    clear c0 c1 c2 f0 f1 f2 q2 hlk
    have hb2 := HRES.out _ (0, false, 0) HB1.out
    have hf2 := HRESF.out (w0.alloc (.cells #[.int .i64 0, .bool false, .int .i64 0] 30)) (0, false, 0)
    obtain ⟨w2, hw2⟩ : ∃ w2, (((w0.alloc (.cells #[.int .i64 0, .bool false, .int .i64 0] 30)).setCell ⟨w.heap.size, 0, none⟩ (.int .i64 0)).setCell ⟨w.heap.size, 1, none⟩ (.bool false)).setCell ⟨w.heap.size, 2, none⟩ (.int .i64 0) = w2 := ⟨_, rfl⟩
    rw [hw2] at hb2 hf2 ⊢
    have t0 : w2.cell? ⟨w.heap.size, 0, none⟩ = some (.int .i64 0) := hb2.cell 0
    have t1 : w2.cell? ⟨w.heap.size, 1, none⟩ = some (.bool false) := hb2.cell 1
    have t2 : w2.cell? ⟨w.heap.size, 2, none⟩ = some (.int .i64 0) := hb2.cell 2
    refine bodyPost_ret (by simp [results, Tryz.results36, go_sem, t0, t1, t2]; try rfl) rfl ?_
    have hfw : Fr w w2 Nil := (HF0.out.alloc _).trans hf2 fun k hk e => by omega
    exact .inl ⟨HWI.out, rfl, ⟨sb, wb, G, HV.out.fr0 hfw⟩, hfw.of_nil⟩
  | some x =>
    have HWI := Lib.hid hwi
    have hc := (wish_pairs (W := D.W) (who := who)).2 x hwi
    rw [hc.1, hc.2] at hlk
    obtain ⟨hxW, hxw⟩ := wish_some hwi
    have hws : SWf x.s := (hD.wf.2 x hxW).2
    have HXW := Lib.hid hxW
    have HXX := Lib.hid hxw
    obtain ⟨s, hs⟩ : ∃ s, x.s = s := ⟨_, rfl⟩
    rw [hs] at hlk hws
    have hin : ∃ g, (s, g) ∈ G := by
      apply Classical.byContradiction
      intro hn
      obtain ⟨_, g2, g3⟩ := hv.gone s fun p hp e => hn ⟨p.2, by rw [← e]; exact hp⟩
      have e2 : upL D.H D.W s = [] := List.map_eq_nil_iff.1 g2
      have e3 : restL D.H D.W s = [] := List.map_eq_nil_iff.1 g3
      by_cases h0 : heldL D.H x.who s = 0
      · have : x ∈ restL D.H D.W s := List.mem_filter.2 ⟨hxW, by simp [hs, h0]⟩
        rw [e3] at this; cases this
      · have : x ∈ upL D.H D.W s := List.mem_filter.2 ⟨hxW, by simp [hs, h0]⟩
        rw [e2] at this; cases this
    obtain ⟨g, hg⟩ := hin
    have HG := Lib.hid hg
    have HS := Lib.hid hs
    obtain ⟨w1, hw1⟩ : ∃ w1, w0.alloc (.cells #[.int .i64 s.1, .bool s.2.1, .int .i64 s.2.2] 30) = w1 := ⟨_, rfl⟩
    have hf1 : Fr w0 w1 Nil := by rw [← hw1]; exact (Fr.refl w0 Nil).alloc _
    have hb6 : Bk w1 w0.heap.size 30 [.int .i64 s.1, .bool s.2.1, .int .i64 s.2.2] := by rw [← hw1]; exact Bk.new w0 _ _
    have hv1 := hv0.fr0 hf1
    have k1 : ∀ w', KeptN w1 w' → w'.cell? ⟨lb, 1, none⟩ = some (.map (some sb)) := KeptN.cell (hv1.root.cell 1)
    have k2 : ∀ w', KeptN w1 w' → w'.cell? ⟨w0.heap.size, 0, none⟩ = some (.int .i64 s.1) := KeptN.cell (hb6.cell 0)
    have k3 : ∀ w', KeptN w1 w' → w'.cell? ⟨w0.heap.size, 1, none⟩ = some (.bool s.2.1) := KeptN.cell (hb6.cell 1)
    have k4 : ∀ w', KeptN w1 w' → w'.cell? ⟨w0.heap.size, 2, none⟩ = some (.int .i64 s.2.2) := KeptN.cell (hb6.cell 2)
    have k5 : ∀ w', KeptN w1 w' → (Instr.lookup 50 (.map (some sb)) (.agg #[.int .i64 s.1, .bool s.2.1, .int .i64 s.2.2]) false).run Tryz.prog w' = .ok (xptr g.xb) w' := fun w' hk' => look_spot_in (hv1.fr0 hk').spots hws hg
    have HB6 := Lib.hid hb6
    have HF1 := Lib.hid hf1
    have HV1 := Lib.hid hv1
    clear hv hf0 hv0 hb4 hD hw hN hwi hc hxW hxw hs hg hf1 hb6 hv1 hws
    go_enter Tryz.func36, Tryz.ntmps36
    go_wp2_with fail
    refine wp_region_sink 6 (KeptN w1) (by kernel_rfl) ?_
    have hSa : KeptN w1 w1.drew := KeptN.start w1
    refine tk 0 hSa ?_
    refine tk 1 hSa ?_
    refine tk 2 hSa ?_
    try simp only [Act.put, sA, sB, sC]
    refine tk 3 hSa ?_ (hy := by intro _ w; have ck1 := k1 _ w; go_simp <;> with_reducible rfl)
    try simp only [Act.put, sA, sB, sC]
    refine tk 4 hSa ?_ (hy := by intro _ w; have ck2 := k2 _ w; have ck3 := k3 _ w; have ck4 := k4 _ w; go_simp <;> with_reducible rfl)
    try simp only [Act.put, sA, sB, sC]
    refine tk 5 hSa ?_ (hy := by intro _ w; have ck5 := k5 _ w; go_simp <;> with_reducible rfl)
    try simp only [Act.put, sA, sB, sC]
    refine wpAnyS_last (i := 6) rfl (by kernel_rfl) (by decide) (by kernel_rfl) (by rfl) fun K hK => ?_
    go_simp
    refine hK.out _ _ ?_
    clear hK K
    have HF2 := Lib.hid hSa.fr
    clear hSa k1 k2 k3 k4 k5 q2 hlk
    have hx := (HV1.out.fr0 HF2.out).at_ _ HG.out
    have HX := Lib.hid hx
    obtain ⟨wq, hwq⟩ : ∃ wq, w1.drew = wq := ⟨_, rfl⟩
    rw [hwq] at HX HF2 hx
    have k2 : ∀ w', GrS wq g w' → w'.cell? ⟨g.xb, 2, none⟩ = some g.rv := GrS.rv
    have HS0 : Hid (GrS wq g wq.drew) := ⟨(Fr.refl wq _).drew, hx.box.cell 2⟩
    have q1 : wq.cell? ⟨g.xb, 1, none⟩ = some g.uv := hx.box.cell 1
    obtain ⟨ra, rc, hrv⟩ := hx.rest.shape
    obtain ⟨ua, uc, huv⟩ := hx.up.shape
    clear hx
    go_wp2_with fail
    refine wp_region_sink 19 (GrS wq g) (by kernel_rfl) ?_
    have hSa := HS0.out
    refine tk 0 hSa ?_
    refine tk 1 hSa ?_
    refine tk 2 hSa ?_
    refine tk 3 hSa ?_
    refine tk 4 hSa ?_
    refine tk 6 hSa ?_
    refine tk 8 hSa ?_
    refine tk 9 hSa ?_
    refine tk 10 hSa ?_
    try simp only [Act.put, sA, sB, sC]
    refine tk 11 hSa ?_ (hy := by intro _ w; have ck2 := k2 _ w; go_simp <;> with_reducible rfl)
    try simp only [Act.put, sA, sB, sC]
    refine tk 12 hSa ?_
    try simp only [Act.put, sA, sB, sC]
    refine on1 5 fun K hK => ?_
    go_simp
    have hu0 := HX.out.up
    have hr0 := HX.out.rest
    rw [huv] at hu0
    rw [hrv] at hr0
    have hfew := queue_few HD.out s
    have hl1 : (prs (upL D.H D.W s)).length ≤ 1000000 := by have := HN.out; omega
    have hl2 : (prs (restL D.H D.W s)).length ≤ 1000000 := by have := HN.out; omega
    have hup : ∀ k, ownOf (.slice ua (prs (upL D.H D.W s)).length uc) k → g.own k := fun k hk => .inr (.inr (.inl (by rw [huv]; exact hk)))
    have hre : ∀ k, ownOf (.slice ra (prs (restL D.H D.W s)).length rc) k → g.own k := fun k hk => .inr (.inr (.inr (by rw [hrv]; exact hk)))
    have hux : ¬ ownOf (.slice ua (prs (upL D.H D.W s)).length uc) g.xb := fun hk => HX.out.ux (by rw [huv]; exact hk)
    have hrx : ¬ ownOf (.slice ra (prs (restL D.H D.W s)).length rc) g.xb := fun hk => HX.out.rx (by rw [hrv]; exact hk)
    have hfar : ∀ k, (Value.slice ra (prs (restL D.H D.W s)).length rc).ownBlock = some k → ¬ ownOf (.slice ua (prs (upL D.H D.W s)).length uc) k := fun k hk hk2 => HX.out.far k (by rw [huv]; exact hk2) (by rw [hrv]; exact hk)
    refine hK.out _ _ hSa ?_
    clear hK K
    try simp only [Act.put, sA, sB, sC]
    refine on1 7 fun K hK => ?_
    go_simp
    refine (without_any (hu0.fr (Fr.refl wq Nil).drew fun _ _ h => h) hl1).mono ?_
    rintro e' w3 ⟨v3, rfl, h31, h32, h33⟩
    obtain ⟨a3, c3, rfl⟩ := h31.shape
    have hf3 : Fr wq w3 (ownOf (.slice ua (prs (upL D.H D.W s)).length uc)) := ((Fr.refl wq _).drew).trans h33 fun _ _ h => h
    have hSb : GrS wq g w3 := ⟨hf3.mono fun k _ hk => hup k hk, by
      have := hf3.cell (HX.out.box.cell 2) hux
      exact this⟩
    refine hK.out _ _ hSb ?_
    clear hK K hSa h33
    try simp only [Act.put, sA, sB, sC]
    refine on1 13 fun K hK => ?_
    go_simp
    refine (without_any (hr0.fr hf3 hfar) hl2).mono ?_
    rintro e' w4 ⟨v4, rfl, h41, h42, h43⟩
    obtain ⟨a4, c4, rfl⟩ := h41.shape
    have hf4 : Fr wq w4 g.own := (hf3.mono fun k _ hk => hup k hk).trans h43 fun k _ hk => hre k hk
    have hb4 : Bk w4 g.xb 72 [.map (some g.hb), g.uv, g.rv] := (HX.out.box.fr hf3 hux).fr h43 hrx
    have hSc : GrS wq g w4 := ⟨hf4, hb4.cell 2⟩
    refine hK.out _ _ hSc ?_
    clear hK K hSb
    have c1 : w4.cell? ⟨g.xb, 1, none⟩ = some g.uv := hb4.cell 1
    have f1 := hb4.free 1
    try simp only [Act.put, sA, sB, sC]
    refine tk 14 hSc ?_
    refine tk 15 hSc ?_
    try simp only [Act.put, sA, sB, sC]
    refine on1 16 fun K hK => ?_
    go_simp
    have hb5 := hb4.set 1 (.slice a3 (notOf who (prs (upL D.H D.W s))).length c3)
    have hf5 : Fr wq (w4.setCell ⟨g.xb, 1, none⟩ (.slice a3 (notOf who (prs (upL D.H D.W s))).length c3)) g.own := Fr.setCell (p := ⟨g.xb, 1, none⟩) hf4 (fun _ => .inl rfl) _
    have h35 := h31.fr h43 fun k hk hk2 => hfar k hk2 (h32 k hk)
    have hu3x : (Value.slice a3 (notOf who (prs (upL D.H D.W s))).length c3).ownBlock ≠ some g.xb := fun hk => hux (h32 _ hk)
    have hr4x : (Value.slice a4 (notOf who (prs (restL D.H D.W s))).length c4).ownBlock ≠ some g.xb := fun hk => hrx (h42 _ hk)
    have hs5 : Fr w4 (w4.setCell ⟨g.xb, 1, none⟩ (.slice a3 (notOf who (prs (upL D.H D.W s))).length c3)) (fun k => k = g.xb) := Fr.store _ _ _ _
    have h55 := h35.fr hs5 fun k hk e => hu3x (by rw [hk, e])
    have h56 := h41.fr hs5 fun k hk e => hr4x (by rw [hk, e])
    obtain ⟨w5, hw5⟩ : ∃ w5, w4.setCell ⟨g.xb, 1, none⟩ (.slice a3 (notOf who (prs (upL D.H D.W s))).length c3) = w5 := ⟨_, rfl⟩
    rw [hw5] at hb5 hf5 hs5 h55 h56 ⊢
    have hSd : GrS wq g w5 := ⟨hf5, hb5.cell 2⟩
    refine hK.out _ _ hSd ?_
    clear hK K hSc c1 f1
    have c2 : w5.cell? ⟨g.xb, 2, none⟩ = some g.rv := hb5.cell 2
    have f2 := hb5.free 2
    try simp only [Act.put, sA, sB, sC]
    refine tk 17 hSd ?_
    refine tk 18 hSd ?_
    try simp only [Act.put, sA, sB, sC]
    refine wpAnyS_last (i := 19) rfl (by kernel_rfl) (by decide) (by kernel_rfl) (by rfl) fun K hK => ?_
    go_simp
    have hb6 := hb5.set 2 (.slice a4 (notOf who (prs (restL D.H D.W s))).length c4)
    have hf6 : Fr wq (w5.setCell ⟨g.xb, 2, none⟩ (.slice a4 (notOf who (prs (restL D.H D.W s))).length c4)) g.own := Fr.setCell (p := ⟨g.xb, 2, none⟩) hf5 (fun _ => .inl rfl) _
    have hs6 : Fr w5 (w5.setCell ⟨g.xb, 2, none⟩ (.slice a4 (notOf who (prs (restL D.H D.W s))).length c4)) (fun k => k = g.xb) := Fr.store _ _ _ _
    have h65 := h55.fr hs6 fun k hk e => hu3x (by rw [hk, e])
    have h66 := h56.fr hs6 fun k hk e => hr4x (by rw [hk, e])
    have hm3 := (HX.out.holds.fr hf3 fun hk => HX.out.uh (by rw [huv]; exact hk)).fr h43 fun hk => HX.out.rh (by rw [hrv]; exact hk)
    have hm6 := (hm3.fr hs5 fun e => HX.out.xh e.symm).fr hs6 fun e => HX.out.xh e.symm
    obtain ⟨w6, hw6⟩ : ∃ w6, w5.setCell ⟨g.xb, 2, none⟩ (.slice a4 (notOf who (prs (restL D.H D.W s))).length c4) = w6 := ⟨_, rfl⟩
    rw [hw6] at hb6 hf6 hs6 h65 h66 hm6 ⊢
    refine hK.out _ _ ?_
    clear hK K hSd c2 f2
    have hgr : ∃ G', LkV w6 lb sb wb { D with W := dropA D.W who } (pairsW D.W) G' S ∧ ∃ g', (s, g') ∈ G' := by
      have h1 := LkV.leave (e := x) (s := s) (g := g) (HV1.out.fr0 HF2.out) HD.out.inv HXW.out HS.out HG.out hb6 hm6 (by rw [HXX.out]; exact h65) (by rw [HXX.out]; exact h66) (fun k hk => by rw [huv]; exact h32 k hk) (fun k hk => by rw [hrv]; exact h42 k hk) hf6
      rw [HXX.out] at h1
      exact h1
    obtain ⟨G', hv6, hin6⟩ := hgr
    have hwS : ∀ k, S k → k < w.heap.size := HV.out.lt
    have hfo : ∀ k, g.own k → S k := fun k hk => HV1.out.inX _ HG.out k hk
    have hf06 : Fr w0 w6 S := (((HF1.out.trans0 HF2.out)).of_nil).trans hf6 fun k _ hk => hfo k hk
    have q6 : w6.cell? ⟨lb, 2, none⟩ = some (.map (some wb)) := hv6.root.cell 2
    obtain ⟨w7, hdel, hm7, hf7⟩ := del_wait hv6.waits HW.out 0
    have hv7 : LkV w7 lb sb wb { D with W := dropA D.W who } (pairsW (dropA D.W who)) G' S := by
      have h1 := LkG.waitsTo hv6 hm7 hf7
      rw [← pairsW_drop] at h1
      exact h1
    have hf07 : Fr w0 w7 S := hf06.trans hf7 fun k _ e => by rw [e]; exact hv6.inW
    have hs0 := HF0.out.size
    have hb47 : Bk w7 w.heap.size 30 [.int .i64 0, .bool false, .int .i64 0] := HB4.out.fr hf07 fun h => by have := hwS _ h; omega
    have hb67 : Bk w7 w0.heap.size 30 [.int .i64 s.1, .bool s.2.1, .int .i64 s.2.2] := by
      have h1 := (HB6.out.fr HF2.out fun h => h).fr hf6 fun h => by have := hwS _ (hfo _ h); omega
      exact h1.fr hf7 fun e => by have := hwS _ hv6.inW; have h2 : w0.heap.size = wb := e; omega
    have c0 : w7.cell? ⟨w.heap.size, 0, none⟩ = some (.int .i64 0) := hb47.cell 0
    have c1 : w7.cell? ⟨w.heap.size, 1, none⟩ = some (.bool false) := hb47.cell 1
    have c2 : w7.cell? ⟨w.heap.size, 2, none⟩ = some (.int .i64 0) := hb47.cell 2
    have f0 := hb47.free 0
    have f1 := hb47.free 1
    have f2 := hb47.free 2
    have r0 : w7.cell? ⟨w0.heap.size, 0, none⟩ = some (.int .i64 s.1) := hb67.cell 0
    have r1 : w7.cell? ⟨w0.heap.size, 1, none⟩ = some (.bool s.2.1) := hb67.cell 1
    have r2 : w7.cell? ⟨w0.heap.size, 2, none⟩ = some (.int .i64 s.2.2) := hb67.cell 2
    have HV7 := Lib.hid hv7
    have HIN6 := Lib.hid hin6
    have HF07 := Lib.hid hf07
    have HB47 := Lib.hid hb47
    have HWS := Lib.hid hwS
    clear hv6 hin6 hwS hfo hf06 hm7 hf7 hv7 hf07 hs0 hb47 hb67 hb6 hf6 hs6 h65 h66 hm6 hm3 h55 h56 hs5 hf5 hb5 h35 hu3x hr4x h32 h42 h31 h41 h43 hf4 hb4 hf3 hu0 hr0 hup hre hux hrx hfar hl1 hl2 hfew hw5 hw6 q1 HS0 k2
    go_wp2_with fail
    clear c0 c1 c2 f0 f1 f2 r0 r1 r2 q6 hdel
    have hb2 := HRES.out w7 s HB47.out
    have hf2 := HRESF.out w7 s
    obtain ⟨w8, hw8⟩ : ∃ w8, ((w7.setCell ⟨w.heap.size, 0, none⟩ (.int .i64 s.1)).setCell ⟨w.heap.size, 1, none⟩ (.bool s.2.1)).setCell ⟨w.heap.size, 2, none⟩ (.int .i64 s.2.2) = w8 := ⟨_, rfl⟩
    rw [hw8] at hb2 hf2 ⊢
    have t0 : w8.cell? ⟨w.heap.size, 0, none⟩ = some (.int .i64 s.1) := hb2.cell 0
    have t1 : w8.cell? ⟨w.heap.size, 1, none⟩ = some (.bool s.2.1) := hb2.cell 1
    have t2 : w8.cell? ⟨w.heap.size, 2, none⟩ = some (.int .i64 s.2.2) := hb2.cell 2
    refine bodyPost_ret (by simp [results, Tryz.results36, go_sem, t0, t1, t2]; try rfl) rfl ?_
    refine .inr ⟨x, HWI.out, by rw [HS.out], ⟨sb, wb, G', HV7.out.fr hf2 fun k hk e => ?_, fun s' h => by rw [h, HS.out]; exact HIN6.out⟩, ?_⟩
    · have := HWS.out k hk; omega
    · refine (HF0.out.of_nil.trans HF07.out fun _ _ h => h).trans hf2 fun k hk e => by omega
end Go.Proofs.YtokeciekncincaaGreat
