/-
  Walk of the iterator that grants: regrant, and what it hands back.
  No condition but sizes.
  Walk of leaves: a number is taken out of the queue where it waits.
  No condition but sizes.
-/
import Derived.Test.YtokeciekncincabGreatPkC8
import Derived.Test.YtokeciekncincabGreatPkC14
import Derived.Shelf.RegionOpen
import Derived.OwnWalkIn
import Derived.TacticsInMore
import Derived.LoopNIn
import Derived.LoopIn
namespace Go.Proofs.YtokeciekncincabGreat
open Go Go.RowKit Go.Maps

attribute [local go_sem] Oper.semAt_some

theorem regrant_any (b : Nat) (w : World) : Calls Tryz.prog 74 #[xptr b] w fun e w' => e = .returned (.func (.func 89) #[] #[.pointer (some ⟨w.heap.size, 0, none⟩)]) ∧ w' = w.alloc (.cells #[xptr b] 71) := by
  go_enter Tryz.func74, Tryz.ntmps74
  go_wp2_with fail
  go_ret
  exact ⟨rfl, rfl⟩

section
variable (lb sb wb : Nat) (D : LkS) (S : Nat → Prop) (s : Spot) (xb Bx N : Nat) (J : List Int → World → Prop)
def XIn (xb : Nat) (s : Spot) (G : List (Spot × GX)) : Prop := ∃ g, (s, g) ∈ G ∧ g.xb = xb
/-- Between two grants. -/
def RgI (pre : List Int) (W : World) : Prop := ∃ D1 G, Goes s D pre D1 ∧ DOk N D1 ∧ LkV W lb sb wb D1 (pairsW D1.W) G S ∧ XIn xb s G ∧ Bk W Bx 71 [xptr xb] ∧ J pre W
/-- Where one is granted, and not yet told. -/
def RgY (pre : List Int) (x : Int) (W : World) : Prop := ∃ D1 e rest G, e.who = x ∧ Goes s D pre D1 ∧ DOk N D1 ∧ queueL D1.H D1.W s = e :: rest ∧ canL D1.H e.who s e.m = true ∧ LkV W lb sb wb (grantL D1 e s) (pairsW D1.W) G S ∧ XIn xb s G ∧ Bk W Bx 71 [xptr xb] ∧ J pre W
/-- Behind all. -/
def RgE (W : World) : Prop := ∃ pre D1 G, regrantL D.W.length D s = (pre, D1) ∧ DOk N D1 ∧ LkV W lb sb wb D1 (pairsW D1.W) G S ∧ XIn xb s G ∧ J pre W
end
theorem Goes.uniq {s : Spot} {D D1 D2 : LkS} {pre : List Int} (h : Goes s D pre D1) (k : Goes s D pre D2) : D1 = D2 := by
  have h1 := h 0
  have h2 := k 0
  rw [h1] at h2
  have h3 := congrArg Prod.snd h2
  exact h3
/-- While a grant is written: all but the spot's own blocks; who else waits for it is still there. -/
def GrS (w0 : World) (g : GX) (w : World) : Prop := Fr w0 w g.own ∧ w.cell? ⟨g.xb, 2, none⟩ = some g.rv
theorem GrS.cell {w0 : World} {g : GX} {a : Addr} {v : Value} (h : w0.cell? a = some v) (hn : ¬ g.own a.block) : ∀ w, GrS w0 g w → w.cell? a = some v := fun _ hs => hs.1.cell h hn
theorem GrS.rv {w0 : World} {g : GX} : ∀ w, GrS w0 g w → w.cell? ⟨g.xb, 2, none⟩ = some g.rv := fun _ hs => hs.2
def lenV : Value → Nat
  | .slice _ n _ => n
  | _ => 0
/-- What lies while the loop goes. -/
structure ItAt (lb sb wb : Nat) (D : LkS) (S : Nat → Prop) (s : Spot) (xb Bx N : Nat) (J : List Int → World → Prop) (K : World → Prop) (pre : List Int) (D1 : LkS) (G : List (Spot × GX)) (g : GX) (v : Value) (W : World) : Prop where
  goes : Goes s D pre D1
  ok : DOk N D1
  at_ : LkV W lb sb wb D1 (pairsW D1.W) G S
  hin : (s, g) ∈ G
  hxb : g.xb = xb
  box : Bk W Bx 71 [xptr xb]
  j : J pre W
  k : K W
  q : OwnH W v (prs (queueL D1.H D1.W s))
  qn : ∀ k, v.ownBlock = some k → ¬ S k
set_option maxRecDepth 100000 in
set_option maxHeartbeats 4000000 in
theorem regrant1_in (n : Nat) (hn : 1 ≤ n) (l : Nat) {lb sb wb : Nat} {D : LkS} {S : Nat → Prop} {s : Spot} {xb Bx N : Nat} (hN : N ≤ 100000) (J : List Int → World → Prop) (K : World → Prop)
    (hJ : ∀ pre A B, J pre A → Fr A B S → J pre B) (hK : ∀ A B, K A → Fr A B S → K B) (hBx : ¬ S Bx) (W : World)
    (hY : ∀ pre x W1, RgY lb sb wb D S s xb Bx N J pre x W1 → K W1 → YieldAt Fence.wide (n - 1) Tryz.prog l #[.int .i64 x] W1 fun e W' => e = .returned (.bool true) ∧ RgI lb sb wb D S s xb Bx N J (pre ++ [x]) W' ∧ K W')
    (h0 : RgI lb sb wb D S s xb Bx N J [] W) (hK0 : K W) :
    CallsIn Fence.wide n Tryz.prog 89 #[.func (.yield l) #[] #[], .pointer (some ⟨Bx, 0, none⟩)] W fun e W' => (∃ v, e = .returned v) ∧ RgE lb sb wb D S s xb N J W' ∧ K W' := by
  have HY := Lib.hid hY
  have HJ := Lib.hid hJ
  have HK := Lib.hid hK
  have HBX := Lib.hid hBx
  obtain ⟨D0, G0, g1, g2, g3, ⟨gx, g4, g4b⟩, g5, g6⟩ := h0
  have q0 : W.cell? ⟨Bx, 0, none⟩ = some (xptr xb) := g5.cell 0
  have hfew := queue_few g2 s
  have cQ := queue_any (g3.at_ _ g4) (show (prs (upL D0.H D0.W s)).length + (prs (restL D0.H D0.W s)).length ≤ 1000000 by omega)
  clear hfew
  rw [g4b, ← prs_queue] at cQ
  have HG1 := Lib.hid g1
  have HG2 := Lib.hid g2
  have HG3 := Lib.hid g3
  have HG4 := Lib.hid g4
  have HG4b := Lib.hid g4b
  have HG5 := Lib.hid g5
  have HG6 := Lib.hid g6
  have HK0 := Lib.hid hK0
  have HN := Lib.hid hN
  clear hY hJ hK hBx g1 g2 g3 g4 g4b g5 g6 hK0 hN
  refine callsIn_of_wp Tryz.func89 rfl trivial ?_ rfl
  simp only [Tryz.ntmps89, List.size_toArray, List.length_cons, List.length_nil, Nat.reduceAdd, Nat.reduceSub, Array.replicate_succ, Array.replicate_zero, List.push_toArray, List.append_toArray, List.nil_append, List.cons_append]
  gi_wp2
  refine ⟨trivial, ?_⟩
  refine (callsIn_wide.2 cQ).mono ?_
  rintro e w1 ⟨v1, rfl, h1, h2, h3⟩
  have HI : Hid (ItAt lb sb wb D S s xb Bx N J K [] D0 G0 gx v1 w1) := by
    have : ItAt lb sb wb D S s xb Bx N J K [] D0 G0 gx v1 w1 := ⟨HG1.out, HG2.out, HG3.out.fr0 h3, HG4.out, HG4b.out, HG5.out.fr h3 fun h => h, HJ.out _ _ _ HG6.out h3.of_nil, HK.out _ _ HK0.out h3.of_nil, h1, fun k hk hs => by have := h2 k hk; have := HG3.out.lt k hs; omega⟩
    exact this
  obtain ⟨a1, c1, hv1⟩ := h1.shape
  generalize hn0 : (prs (queueL D0.H D0.W s)).length = n0 at hv1
  have HN0 := Lib.hid hn0
  clear h1 h2 h3 cQ HG1 HG2 HG3 HG4 HG4b HG5 HG6 HK0 q0 hn0
  subst hv1
  gi_wp2
  gi_loopw [3] (fun vq wr => ∃ pre D1 G g a n1 c, vq = .slice a n1 c ∧ Hid ((prs (queueL D1.H D1.W s)).length = n1) ∧ Hid (ItAt lb sb wb D S s xb Bx N J K pre D1 G g vq wr)) (fun vq _ => lenV vq)
  case atStart => exact ⟨[], D0, G0, gx, a1, n0, c1, rfl, HN0.out, HI.out⟩
  case round =>
    clear HI HN0
    obtain ⟨pre, D1, G, g, a, n1, c, rfl, HLN, HI⟩ := hrel
    obtain ⟨wo, rfl⟩ : ∃ wo : World, wo = wr := ⟨_, rfl⟩
    have k0 : ∀ w', KeptN wo w' → w'.cell? ⟨Bx, 0, none⟩ = some (xptr xb) := KeptN.cell (HI.out.box.cell 0)
    rcases hq : queueL D1.H D1.W s with _ | ⟨e, rest⟩
    · have hn1 : n1 = 0 := by rw [← HLN.out, hq]; rfl
      subst hn1
      have HQ := Lib.hid hq
      clear hq
      gi_wp2
      refine wpIn_wide.2 ?_
      refine wp_region_sink 9 (KeptN wo) (by kernel_rfl) ?_
      have hSa : KeptN wo wo.drew := KeptN.start wo
      refine tk 0 hSa ?_
      refine tk 1 hSa ?_
      refine tk 2 hSa ?_
      refine tk 3 hSa ?_
      try simp only [Act.put, sA, sB, sC]
      refine wpAnyS_skip (i := 4) rfl (by kernel_rfl) (fun _ _ _ h => h) (by rfl) hSa ?_
      try simp only [Act.put, sA, sB, sC]
      refine wpAnyS_skip (i := 5) rfl (by kernel_rfl) (fun _ _ _ h => h) (by rfl) hSa ?_
      try simp only [Act.put, sA, sB, sC]
      refine wpAnyS_skip (i := 6) rfl (by kernel_rfl) (fun _ _ _ h => h) (by rfl) hSa ?_
      try simp only [Act.put, sA, sB, sC]
      refine wpAnyS_skip (i := 7) rfl (by kernel_rfl) (fun _ _ _ h => h) (by rfl) hSa ?_
      try simp only [Act.put, sA, sB, sC]
      refine wpAnyS_skip (i := 8) rfl (by kernel_rfl) (fun _ _ _ h => h) (by rfl) hSa ?_
      try simp only [Act.put, sA, sB, sC]
      refine wpAnyS_last (i := 9) rfl (by kernel_rfl) (by decide) (by kernel_rfl) (by rfl) fun K hK => ?_
      go_simp
      refine hK.out _ _ ?_
      clear hK K
      have HF := Lib.hid hSa.fr
      clear hSa k0
      gi_wp2
      have HE : Hid (RgE lb sb wb D S s xb N J wo.drew ∧ K wo.drew) := by
        have hf : Fr wo wo.drew Nil := (Fr.refl wo Nil).drew
        have : RgE lb sb wb D S s xb N J wo.drew ∧ K wo.drew := ⟨⟨pre, D1, G, HI.out.goes.done (.inl HQ.out), HI.out.ok, HI.out.at_.fr0 hf, ⟨g, HI.out.hin, HI.out.hxb⟩, HJ.out _ _ _ HI.out.j hf.of_nil⟩, HK.out _ _ HI.out.k hf.of_nil⟩
        exact this
      go_end0
      exact ⟨⟨_, rfl⟩, HE.out⟩
    · have HQ := Lib.hid hq
      have hpos : 0 < n1 := by rw [← HLN.out, hq]; simp [prs]
      have hn1 : (prs (queueL D1.H D1.W s)).length = n1 := HLN.out
      have hown := HI.out.q
      obtain ⟨b, c', hv, _, hcl⟩ := hown.form (by rw [hn1]; exact hpos)
      rw [hn1] at hv
      simp only [Value.slice.injEq, true_and] at hv
      obtain ⟨rfl, rfl⟩ := hv
      obtain ⟨p0, p1⟩ := hcl 0 (e.who, e.m) (by rw [hq]; rfl)
      have k1 : ∀ w', KeptN wo w' → w'.cell? ⟨b, 0, none⟩ = some (.int .i64 e.who) := KeptN.cell p0
      have k2 : ∀ w', KeptN wo w' → w'.cell? ⟨b, 1, none⟩ = some (.int .u8 e.m) := KeptN.cell p1
      have he := (queueL_mem (H := D1.H) (W := D1.W) (s := s) (e := e) (by rw [hq]; exact List.mem_cons_self))
      have HM := Lib.hid he
      have hx := HI.out.at_.at_ _ HI.out.hin
      have cC : ∀ w', Fr wo w' Nil → Calls Tryz.prog 44 #[xptr xb, .agg #[.int .i64 e.who, .int .u8 e.m]] w' fun e' w'' => e' = .returned (.bool (canL D1.H e.who s e.m)) ∧ Fr w' w'' Nil := fun w' hf => by
        have h1 := can_any (who := e.who) (hx.fr0 hf) (HI.out.ok.inv.wm e he.1).1 (holds_modes HI.out.ok.inv s)
        rw [HI.out.hxb] at h1
        refine h1.mono ?_
        rintro e' w'' ⟨h2, h3⟩
        exact ⟨by rw [← can_is]; exact h2, h3⟩
      generalize hbc : canL D1.H e.who s e.m = bc at cC
      have HBC := Lib.hid hbc
      clear hbc
      have hpz : (0 : Int) < (n1 : Int) := by omega
      have hgd : decide ((n1 : Int) > 0) = true := decide_eq_true hpz
      clear hq hown hcl p0 p1 he hx hn1
      gi_wp2
      refine wpIn_wide.2 ?_
      refine wp_region_sink 9 (KeptN wo) (by kernel_rfl) ?_
      have hSa : KeptN wo wo.drew := KeptN.start wo
      refine tk 0 hSa ?_
      refine tk 1 hSa ?_
      refine tk 2 hSa ?_
      refine tk 3 hSa ?_
      try simp only [Act.put, sA, sB, sC]
      refine tk 4 hSa ?_ (hy := by intro _ w; have ck0 := k0 _ w; go_simp <;> with_reducible rfl)
      try simp only [Act.put, sA, sB, sC]
      refine tk 5 hSa ?_
      refine tk 6 hSa ?_
      try simp only [Act.put, sA, sB, sC]
      refine tk 7 hSa ?_ (hy := by intro _ w; have ck1 := k1 _ w; have ck2 := k2 _ w; go_simp <;> with_reducible rfl)
      try simp only [Act.put, sA, sB, sC]
      refine on1 8 fun K hK => ?_
      go_simp
      refine (cC _ hSa.fr).mono ?_
      rintro e' w2 ⟨rfl, hf2⟩
      have hSb := hSa.next hf2
      refine hK.out _ _ hSb ?_
      clear hK K hf2 cC
      try simp only [Act.put, sA, sB, sC]
      refine wpAnyS_last (i := 9) rfl (by kernel_rfl) (by decide) (by kernel_rfl) (by rfl) fun K hK => ?_
      go_simp
      refine hK.out _ _ ?_
      clear hK K
      have HF := Lib.hid hSb.fr
      clear hSa hSb k0 k1 k2
      cases bc with
      | false =>
        gi_wp2
        have HE : Hid (RgE lb sb wb D S s xb N J w2 ∧ K w2) := by
          have hf : Fr wo w2 Nil := HF.out
          have : RgE lb sb wb D S s xb N J w2 ∧ K w2 := ⟨⟨pre, D1, G, HI.out.goes.done (.inr ⟨e, rest, HQ.out, HBC.out⟩), HI.out.ok, HI.out.at_.fr0 hf, ⟨g, HI.out.hin, HI.out.hxb⟩, HJ.out _ _ _ HI.out.j hf.of_nil⟩, HK.out _ _ HI.out.k hf.of_nil⟩
          exact this
        go_end0
        exact ⟨⟨_, rfl⟩, HE.out⟩
      | true =>
        have hf := HF.out
        have hcq := HI.out.q.fr hf (fun _ _ h => h)
        obtain ⟨b', c', hv, _, hcl⟩ := hcq.form (by rw [HLN.out]; exact hpos)
        rw [HLN.out] at hv
        simp only [Value.slice.injEq, Option.some.injEq, Addr.mk.injEq, and_true, true_and] at hv
        obtain ⟨rfl, rfl⟩ := hv
        obtain ⟨p0, p1⟩ := hcl 0 (e.who, e.m) (by rw [HQ.out]; rfl)
        have HFA := Lib.hid (hf.alloc (.cells #[.int .i64 e.who, .int .u8 e.m] 67))
        have HBT := Lib.hid (Bk.new w2 67 #[.int .i64 e.who, .int .u8 e.m])
        clear hf hcq hcl
        have hxb := HI.out.hxb
        subst hxb
        have hx := (HI.out.at_.at_ _ HI.out.hin).fr0 HFA.out
        have HX := Lib.hid hx
        have hbx := HI.out.box.fr HFA.out (fun h => h)
        have hnb : ¬ g.own Bx := fun h => HBX.out (HI.out.at_.inX _ HI.out.hin _ h)
        have hnt : ¬ g.own w2.heap.size := fun h => by
          have := (HI.out.at_.at_ _ HI.out.hin).lt _ h
          have := HF.out.size
          omega
        obtain ⟨wq, hwq⟩ : ∃ wq, w2.alloc (.cells #[.int .i64 e.who, .int .u8 e.m] 67) = wq := ⟨_, rfl⟩
        rw [hwq] at hx hbx HFA HBT HX
        have k0 : ∀ w', GrS wq g w' → w'.cell? ⟨Bx, 0, none⟩ = some (xptr g.xb) := GrS.cell (hbx.cell 0) hnb
        have k1 : ∀ w', GrS wq g w' → w'.cell? ⟨w2.heap.size, 0, none⟩ = some (.int .i64 e.who) := GrS.cell (HBT.out.cell 0) hnt
        have k2 : ∀ w', GrS wq g w' → w'.cell? ⟨g.xb, 2, none⟩ = some g.rv := GrS.rv
        have q1 : wq.cell? ⟨g.xb, 1, none⟩ = some g.uv := hx.box.cell 1
        have HS0 : Hid (GrS wq g wq.drew) := ⟨(Fr.refl wq _).drew, hx.box.cell 2⟩
        have HNT := Lib.hid hnt
        obtain ⟨ra, rc, hrv⟩ := hx.rest.shape
        obtain ⟨ua, uc, huv⟩ := hx.up.shape
        clear hx hbx hnb hnt
        gi_wp2
        clear p0 p1
        refine wpIn_wide.2 ?_
        refine wp_region_sink 21 (GrS wq g) (by kernel_rfl) ?_
        have hSa := HS0.out
        refine tk 0 hSa ?_ (hy := by intro _ w; have ck0 := k0 _ w; go_simp <;> with_reducible rfl)
        try simp only [Act.put, sA, sB, sC]
        refine tk 1 hSa ?_ (hy := by intro _ w; have ck0 := k0 _ w; go_simp <;> with_reducible rfl)
        try simp only [Act.put, sA, sB, sC]
        refine tk 2 hSa ?_ (hy := by intro _ w; have ck0 := k0 _ w; go_simp <;> with_reducible rfl)
        try simp only [Act.put, sA, sB, sC]
        refine tk 3 hSa ?_
        refine tk 4 hSa ?_
        refine tk 6 hSa ?_
        try simp only [Act.put, sA, sB, sC]
        refine tk 7 hSa ?_ (hy := by intro _ w; have ck1 := k1 _ w; go_simp <;> with_reducible rfl)
        try simp only [Act.put, sA, sB, sC]
        refine tk 9 hSa ?_ (hy := by intro _ w; have ck0 := k0 _ w; go_simp <;> with_reducible rfl)
        try simp only [Act.put, sA, sB, sC]
        refine tk 10 hSa ?_
        refine tk 11 hSa ?_
        try simp only [Act.put, sA, sB, sC]
        refine tk 12 hSa ?_ (hy := by intro _ w; have ck2 := k2 _ w; go_simp <;> with_reducible rfl)
        try simp only [Act.put, sA, sB, sC]
        refine tk 13 hSa ?_
        try simp only [Act.put, sA, sB, sC]
        refine tk 14 hSa ?_ (hy := by intro _ w; have ck1 := k1 _ w; go_simp <;> with_reducible rfl)
        try simp only [Act.put, sA, sB, sC]
        refine on1 5 fun K hK => ?_
        go_simp
        have hu0 := HX.out.up
        have hr0 := HX.out.rest
        rw [huv] at hu0
        rw [hrv] at hr0
        have hfew := queue_few HI.out.ok s
        have hl1 : (prs (upL D1.H D1.W s)).length ≤ 1000000 := by have := HN.out; omega
        have hl2 : (prs (restL D1.H D1.W s)).length ≤ 1000000 := by have := HN.out; omega
        have hup : ∀ k, ownOf (.slice ua (prs (upL D1.H D1.W s)).length uc) k → g.own k := fun k hk => .inr (.inr (.inl (by rw [huv]; exact hk)))
        have hre : ∀ k, ownOf (.slice ra (prs (restL D1.H D1.W s)).length rc) k → g.own k := fun k hk => .inr (.inr (.inr (by rw [hrv]; exact hk)))
        have hux : ¬ ownOf (.slice ua (prs (upL D1.H D1.W s)).length uc) g.xb := fun hk => HX.out.ux (by rw [huv]; exact hk)
        have hrx : ¬ ownOf (.slice ra (prs (restL D1.H D1.W s)).length rc) g.xb := fun hk => HX.out.rx (by rw [hrv]; exact hk)
        have hfar : ∀ k, (Value.slice ra (prs (restL D1.H D1.W s)).length rc).ownBlock = some k → ¬ ownOf (.slice ua (prs (upL D1.H D1.W s)).length uc) k := fun k hk hk2 => HX.out.far k (by rw [huv]; exact hk2) (by rw [hrv]; exact hk)
        refine hK.out _ _ hSa ?_
        clear hK K
        try simp only [Act.put, sA, sB, sC]
        refine on1 8 fun K hK => ?_
        go_simp
        refine (without_any (hu0.fr (Fr.refl wq Nil).drew fun _ _ h => h) hl1).mono ?_
        rintro e' w3 ⟨v3, rfl, h31, h32, h33⟩
        obtain ⟨a3, c3, rfl⟩ := h31.shape
        have hf3 : Fr wq w3 (ownOf (.slice ua (prs (upL D1.H D1.W s)).length uc)) := ((Fr.refl wq _).drew).trans h33 fun _ _ h => h
        have hSb : GrS wq g w3 := ⟨hf3.mono fun k _ hk => hup k hk, by
          have := hf3.cell (HX.out.box.cell 2) hux
          exact this⟩
        refine hK.out _ _ hSb ?_
        clear hK K hSa h33
        try simp only [Act.put, sA, sB, sC]
        refine on1 15 fun K hK => ?_
        go_simp
        refine (without_any (hr0.fr hf3 hfar) hl2).mono ?_
        rintro e' w4 ⟨v4, rfl, h41, h42, h43⟩
        obtain ⟨a4, c4, rfl⟩ := h41.shape
        have hf4 : Fr wq w4 g.own := (hf3.mono fun k _ hk => hup k hk).trans h43 fun k _ hk => hre k hk
        have hb4 : Bk w4 g.xb 74 [.map (some g.hb), g.uv, g.rv] := (HX.out.box.fr hf3 hux).fr h43 hrx
        have hSc : GrS wq g w4 := ⟨hf4, hb4.cell 2⟩
        refine hK.out _ _ hSc ?_
        clear hK K hSb
        have c1 : w4.cell? ⟨g.xb, 1, none⟩ = some g.uv := hb4.cell 1
        have f1 := hb4.free 1
        try simp only [Act.put, sA, sB, sC]
        refine tk 16 hSc ?_
        refine tk 17 hSc ?_
        try simp only [Act.put, sA, sB, sC]
        refine on1 18 fun K hK => ?_
        go_simp
        have hb5 := hb4.set 1 (.slice a3 (notOf e.who (prs (upL D1.H D1.W s))).length c3)
        have hf5 : Fr wq (w4.setCell ⟨g.xb, 1, none⟩ (.slice a3 (notOf e.who (prs (upL D1.H D1.W s))).length c3)) g.own := Fr.setCell (p := ⟨g.xb, 1, none⟩) hf4 (fun _ => .inl rfl) _
        have h35 := h31.fr h43 fun k hk hk2 => hfar k hk2 (h32 k hk)
        have hu3x : (Value.slice a3 (notOf e.who (prs (upL D1.H D1.W s))).length c3).ownBlock ≠ some g.xb := fun hk => hux (h32 _ hk)
        have hr4x : (Value.slice a4 (notOf e.who (prs (restL D1.H D1.W s))).length c4).ownBlock ≠ some g.xb := fun hk => hrx (h42 _ hk)
        have hs5 : Fr w4 (w4.setCell ⟨g.xb, 1, none⟩ (.slice a3 (notOf e.who (prs (upL D1.H D1.W s))).length c3)) (fun k => k = g.xb) := Fr.store _ _ _ _
        have h55 := h35.fr hs5 fun k hk e => hu3x (by rw [hk, e])
        have h56 := h41.fr hs5 fun k hk e => hr4x (by rw [hk, e])
        obtain ⟨w5, hw5⟩ : ∃ w5, w4.setCell ⟨g.xb, 1, none⟩ (.slice a3 (notOf e.who (prs (upL D1.H D1.W s))).length c3) = w5 := ⟨_, rfl⟩
        rw [hw5] at hb5 hf5 hs5 h55 h56 ⊢
        have hSd : GrS wq g w5 := ⟨hf5, hb5.cell 2⟩
        refine hK.out _ _ hSd ?_
        clear hK K hSc c1 f1
        have c2 : w5.cell? ⟨g.xb, 2, none⟩ = some g.rv := hb5.cell 2
        have f2 := hb5.free 2
        try simp only [Act.put, sA, sB, sC]
        refine tk 19 hSd ?_
        refine tk 20 hSd ?_
        try simp only [Act.put, sA, sB, sC]
        refine wpAnyS_last (i := 21) rfl (by kernel_rfl) (by decide) (by kernel_rfl) (by rfl) fun K hK => ?_
        go_simp
        have hb6 := hb5.set 2 (.slice a4 (notOf e.who (prs (restL D1.H D1.W s))).length c4)
        have hf6 : Fr wq (w5.setCell ⟨g.xb, 2, none⟩ (.slice a4 (notOf e.who (prs (restL D1.H D1.W s))).length c4)) g.own := Fr.setCell (p := ⟨g.xb, 2, none⟩) hf5 (fun _ => .inl rfl) _
        have hs6 : Fr w5 (w5.setCell ⟨g.xb, 2, none⟩ (.slice a4 (notOf e.who (prs (restL D1.H D1.W s))).length c4)) (fun k => k = g.xb) := Fr.store _ _ _ _
        have h65 := h55.fr hs6 fun k hk e => hu3x (by rw [hk, e])
        have h66 := h56.fr hs6 fun k hk e => hr4x (by rw [hk, e])
        have hm3 := (HX.out.holds.fr hf3 fun hk => HX.out.uh (by rw [huv]; exact hk)).fr h43 fun hk => HX.out.rh (by rw [hrv]; exact hk)
        have hm6 := (hm3.fr hs5 fun e => HX.out.xh e.symm).fr hs6 fun e => HX.out.xh e.symm
        obtain ⟨w6, hw6⟩ : ∃ w6, w5.setCell ⟨g.xb, 2, none⟩ (.slice a4 (notOf e.who (prs (restL D1.H D1.W s))).length c4) = w6 := ⟨_, rfl⟩
        rw [hw6] at hb6 hf6 hs6 h65 h66 hm6 ⊢
        refine hK.out _ _ ?_
        clear hK K hSd c2 f2
        have hbt : Bk w6 w2.heap.size 67 [.int .i64 e.who, .int .u8 e.m] := HBT.out.fr hf6 HNT.out
        have hnb : ¬ g.own Bx := fun h => HBX.out (HI.out.at_.inX _ HI.out.hin _ h)
        have hbx := (HI.out.box.fr HFA.out (fun h => h)).fr hf6 hnb
        have k0 : ∀ w', KeptN w6 w' → w'.cell? ⟨Bx, 0, none⟩ = some (xptr g.xb) := KeptN.cell (hbx.cell 0)
        have k1 : ∀ w', KeptN w6 w' → w'.cell? ⟨w2.heap.size, 0, none⟩ = some (.int .i64 e.who) := KeptN.cell (hbt.cell 0)
        have k2 : ∀ w', KeptN w6 w' → w'.cell? ⟨w2.heap.size, 1, none⟩ = some (.int .u8 e.m) := KeptN.cell (hbt.cell 1)
        have k3 : ∀ w', KeptN w6 w' → w'.cell? ⟨g.xb, 0, none⟩ = some (.map (some g.hb)) := KeptN.cell (hb6.cell 0)
        have HB6 : Hid (Bk w6 g.xb 74 [.map (some g.hb), .slice a3 (notOf e.who (prs (upL D1.H D1.W s))).length c3, .slice a4 (notOf e.who (prs (restL D1.H D1.W s))).length c4]) := hb6
        have HF6 := Lib.hid hf6
        have H65 := Lib.hid h65
        have H66 := Lib.hid h66
        have HM6 := Lib.hid hm6
        have H32 : Hid (∀ k, (Value.slice a3 (notOf e.who (prs (upL D1.H D1.W s))).length c3).ownBlock = some k → g.uv.ownBlock = some k) := fun k hk => by rw [huv]; exact h32 k hk
        have H42 : Hid (∀ k, (Value.slice a4 (notOf e.who (prs (restL D1.H D1.W s))).length c4).ownBlock = some k → g.rv.ownBlock = some k) := fun k hk => by rw [hrv]; exact h42 k hk
        have HBXX := Lib.hid hbx
        clear hbt hnb hbx hb6 hf6 hs6 h65 h66 hm6 hm3 h55 h56 hs5 hf5 hb5 h35 hu3x hr4x h32 h42 h31 h41 h43 hf4 hb4 hf3 hu0 hr0 hup hre hux hrx hfar hl1 hl2 hfew hw5 hw6 q1 HS0
        gi_wp2
        refine wpIn_wide.2 ?_
        refine wp_region_sink 8 (KeptN w6) (by kernel_rfl) ?_
        have hSa : KeptN w6 w6.drew := KeptN.start w6
        refine tk 0 hSa ?_ (hy := by intro _ w; have ck0 := k0 _ w; go_simp <;> with_reducible rfl)
        try simp only [Act.put, sA, sB, sC]
        refine tk 1 hSa ?_
        refine tk 2 hSa ?_
        try simp only [Act.put, sA, sB, sC]
        refine tk 3 hSa ?_ (hy := by intro _ w; have ck3 := k3 _ w; go_simp <;> with_reducible rfl)
        try simp only [Act.put, sA, sB, sC]
        refine tk 4 hSa ?_
        try simp only [Act.put, sA, sB, sC]
        refine tk 5 hSa ?_ (hy := by intro _ w; have ck1 := k1 _ w; go_simp <;> with_reducible rfl)
        try simp only [Act.put, sA, sB, sC]
        refine tk 6 hSa ?_
        try simp only [Act.put, sA, sB, sC]
        refine tk 7 hSa ?_ (hy := by intro _ w; have ck2 := k2 _ w; go_simp <;> with_reducible rfl)
        try simp only [Act.put, sA, sB, sC]
        have hkl : (holdsOf D1.H s).length < maxLen := by have := holds_few HI.out.ok s; have := HN.out; unfold maxLen; omega
        have hwk := (HI.out.ok.wf.2 e HM.out.1).1
        refine wpAnyS_last (i := 8) rfl (by kernel_rfl) (by decide) (by kernel_rfl) (by rfl) fun K hK => ?_
        refine wp_map_set _ _ _ _ 72 rfl 2 31 Tryz.keyI64 Tryz.underlying72 intKey g.hb (holdsOf D1.H s) hkl rfl (HM6.out.fr0 hSa.fr) _ e.who rfl (keyW hwk) e.m rfl ?_
        intro w7 hm7 hf7
        have hf7' : Fr w6 w7 (fun j => j = g.hb) := ((Fr.refl w6 _).drew).trans hf7 fun _ _ h => h
        refine hK.out _ _ ?_
        clear hK K hf7
        have hgr : ∃ G' g', LkV w7 lb sb wb (grantL D1 e s) (pairsW D1.W) G' S ∧ (s, g') ∈ G' ∧ g'.xb = g.xb := by
          refine LkV.grant (HI.out.at_.fr0 HFA.out) HI.out.ok.inv HM.out.1 HM.out.2 HI.out.hin (HB6.out.fr hf7' fun e2 => HX.out.xh e2) hm7 (H65.out.fr hf7' fun k hk e2 => HX.out.uh (by rw [← e2]; exact H32.out k hk)) (H66.out.fr hf7' fun k hk e2 => HX.out.rh (by rw [← e2]; exact H42.out k hk)) H32.out H42.out ?_
          exact HF6.out.trans hf7' fun k _ hk => .inr (.inl hk)
        obtain ⟨G', g', hv7, hg7, hx7⟩ := hgr
        have hf7w : Fr wo w7 S := (HFA.out.of_nil.trans HF6.out fun k _ hk => HI.out.at_.inX _ HI.out.hin k hk).trans hf7' fun k _ hk => HI.out.at_.inX _ HI.out.hin k (.inr (.inl hk))
        have hb7 : Bk w7 Bx 71 [xptr g.xb] := HBXX.out.fr hf7' fun e2 => HBX.out (by rw [e2]; exact HI.out.at_.inX _ HI.out.hin _ (.inr (.inl rfl)))
        have hyy : RgY lb sb wb D S s g.xb Bx N J pre e.who w7 := ⟨D1, e, rest, G', rfl, HI.out.goes, HI.out.ok, HQ.out, HBC.out, hv7, ⟨g', hg7, hx7⟩, hb7, HJ.out _ _ _ HI.out.j hf7w⟩
        obtain ⟨fn, tmps, assign, body, hyr, hR⟩ := HY.out pre e.who w7 hyy (HK.out _ _ HI.out.k hf7w)
        have hbt7 : w7.cell? ⟨w2.heap.size, 0, none⟩ = some (.int .i64 e.who) := Fr.cell hf7' ((k1 _ (KeptN.fr (Fr.refl w6 Nil))).trans rfl) (fun e2 => HNT.out (.inr (.inl e2)))
        clear hSa hm7 hf7' hv7 hf7w hb7 hyy k0 k1 k2 k3 hkl hwk
        have HGO := Lib.hid (HI.out.goes.snoc HQ.out HBC.out)
        have HSH : Hid ((prs (queueL (grantL D1 e s).H (grantL D1 e s).W s)).length < n1) := by
          have h1 := queue_shorter HQ.out
          have : (prs (queueL (grantL D1 e s).H (grantL D1 e s).W s)).length < n1 := by
            rw [← HLN.out, prs_len, prs_len]
            show (queueL (putH D1.H e.who s e.m) (dropA D1.W e.who) s).length < _
            rw [queueL_grant]
            exact h1
          exact this
        gi_wp2
        refine hR.mono ?_
        rintro e' w8 ⟨rfl, ⟨D2, G2, i1, i2, i3, ⟨g2, i4, i4b⟩, i5, i6⟩, i7⟩
        have HD : Hid (D2 = grantL D1 e s) := i1.uniq HGO.out
        have hfew := queue_few i2 s
        have cQ := queue_any (i3.at_ _ i4) (show (prs (upL D2.H D2.W s)).length + (prs (restL D2.H D2.W s)).length ≤ 1000000 by have := HN.out; omega)
        rw [i4b, ← prs_queue] at cQ
        have q8 : w8.cell? ⟨Bx, 0, none⟩ = some (xptr g.xb) := i5.cell 0
        have I1 := Lib.hid i1
        have I2 := Lib.hid i2
        have I3 := Lib.hid i3
        have I4 := Lib.hid i4
        have I4B := Lib.hid i4b
        have I5 := Lib.hid i5
        have I6 := Lib.hid i6
        have I7 := Lib.hid i7
        clear i1 i2 i3 i4 i4b i5 i6 i7 hfew hR hyr hbt7
        gi_wp2
        refine ⟨trivial, ?_⟩
        refine (callsIn_wide.2 cQ).mono ?_
        rintro e' w9 ⟨v9, rfl, h1, h2, h3⟩
        have HI9 : Hid (ItAt lb sb wb D S s g.xb Bx N J K (pre ++ [e.who]) D2 G2 g2 v9 w9) := by
          have : ItAt lb sb wb D S s g.xb Bx N J K (pre ++ [e.who]) D2 G2 g2 v9 w9 := ⟨I1.out, I2.out, I3.out.fr0 h3, I4.out, I4B.out, I5.out.fr h3 fun h => h, HJ.out _ _ _ I6.out h3.of_nil, HK.out _ _ I7.out h3.of_nil, h1, fun k hk hs => by have := h2 k hk; have := I3.out.lt k hs; omega⟩
          exact this
        obtain ⟨a9, c9, hv9⟩ := h1.shape
        generalize hn9 : (prs (queueL D2.H D2.W s)).length = n9 at hv9
        have HN9 := Lib.hid hn9
        have hlt9 : n9 < n1 := by rw [← hn9, HD.out]; exact HSH.out
        clear h1 h2 h3 cQ hn9 q8
        subst hv9
        gi_wp2
        go_roundw
        case rel => exact ⟨pre ++ [e.who], D2, G2, g2, a9, n9, c9, rfl, HN9.out, HI9.out⟩
        case measure => exact hlt9
end Go.Proofs.YtokeciekncincabGreat
namespace Go.Proofs.YtokeciekncincabGreat
open Go Go.RowKit Go.Maps

theorem upL_dropA (H W : List LkE) (who : Int) (s : Spot) : upL H (dropA W who) s = (upL H W s).filter fun e => e.who != who := by
  unfold upL dropA
  rw [List.filter_filter, List.filter_filter]
  refine List.filter_congr fun e _ => ?_
  rw [Bool.and_comm]
theorem restL_dropA (H W : List LkE) (who : Int) (s : Spot) : restL H (dropA W who) s = (restL H W s).filter fun e => e.who != who := by
  unfold restL dropA
  rw [List.filter_filter, List.filter_filter]
  refine List.filter_congr fun e _ => ?_
  rw [Bool.and_comm]
section
variable {w w' : World} {lb sb wb : Nat} {D : LkS} {V : List (Int × Spot)} {G : List (Spot × GX)} {S : Nat → Prop}
theorem LkV.leave {s : Spot} {g : GX} {e : LkE} {uv rv : Value} (h : LkV w lb sb wb D V G S) (hD : LInv D) (he : e ∈ D.W) (hes : e.s = s) (hg : (s, g) ∈ G) (hbox : Bk w' g.xb 74 [.map (some g.hb), uv, rv])
    (hm : MapAt Tryz.prog 2 ikey modV w' g.hb (holdsOf D.H s)) (hu : OwnH w' uv (notOf e.who (prs (upL D.H D.W s)))) (hr : OwnH w' rv (notOf e.who (prs (restL D.H D.W s))))
    (hu2 : ∀ k, uv.ownBlock = some k → g.uv.ownBlock = some k) (hr2 : ∀ k, rv.ownBlock = some k → g.rv.ownBlock = some k) (hf : Fr w w' g.own) :
    ∃ G', LkV w' lb sb wb { D with W := dropA D.W e.who } V G' S ∧ ∃ g', (s, g') ∈ G' := by
  have hx := h.at_ _ hg
  have hown : ∀ k, (⟨g.xb, g.hb, uv, rv⟩ : GX).own k → g.own k := by
    rintro k (rfl | rfl | hk | hk)
    · exact .inl rfl
    · exact .inr (.inl rfl)
    · exact .inr (.inr (.inl (hu2 k hk)))
    · exact .inr (.inr (.inr (hr2 k hk)))
  have hx' : XAt w' ⟨g.xb, g.hb, uv, rv⟩ (holdsOf D.H s) (prs (upL D.H (dropA D.W e.who) s)) (prs (restL D.H (dropA D.W e.who) s)) := by
    refine ⟨hbox, hm, ?_, ?_, fun k hk hk2 => hx.far k (hu2 k hk) (hr2 k hk2)⟩
    · rw [upL_dropA, prs_notOf]; exact hu
    · rw [restL_dropA, prs_notOf]; exact hr
  have h1 := LkG.turn (h' := holdsOf D.H) (u' := fun s' => prs (upL D.H (dropA D.W e.who) s')) (r' := fun s' => prs (restL D.H (dropA D.W e.who) s')) h hg (g' := ⟨g.xb, g.hb, uv, rv⟩) rfl hx' hf (fun k hk => .inl (hown k hk)) (fun s' hs' => by
    have hne : e.s ≠ s' := by rw [hes]; exact fun h => hs' h.symm
    refine ⟨rfl, ?_, ?_⟩
    · show prs (upL D.H (dropA D.W e.who) s') = _
      rw [upL_dropA, filter_other hD he hne fun x hx => queueL_of D.H D.W s' x (List.mem_append.2 (.inl hx))]
    · show prs (restL D.H (dropA D.W e.who) s') = _
      rw [restL_dropA, filter_other hD he hne fun x hx => queueL_of D.H D.W s' x (List.mem_append.2 (.inr hx))])
  have h2 := h1.more (T := S) (fun k hk => hk.elim id fun hk => h.inX _ hg k (hown k hk)) fun k hk => Nat.lt_of_lt_of_le (h.lt k hk) hf.size
  exact ⟨_, h2, _, List.mem_map.2 ⟨(s, g), hg, if_pos rfl⟩⟩
end
theorem wish_pairs {W : List LkE} {who : Int} : (wishL W who = none → ((pairsW W).map Prod.fst).contains who = false) ∧ ∀ e, wishL W who = some e → ((pairsW W).map Prod.fst).contains who = true ∧ getV (pairsW W) who (0, false, 0) = e.s := by
  induction W with
  | nil => exact ⟨fun _ => rfl, fun e h => by cases h⟩
  | cons x W ih =>
    unfold wishL pairsW getV at *
    rw [List.find?_cons]
    simp only [List.map_cons, List.find?_cons, List.contains_cons]
    by_cases h : x.who = who
    · have h1 : (x.who == who) = true := by rw [beq_iff_eq]; exact h
      have h2 : (who == x.who) = true := by rw [beq_iff_eq]; exact h.symm
      rw [h1, h2, decide_eq_true h]
      exact ⟨fun h => (by cases h), fun e h => by cases h; exact ⟨rfl, rfl⟩⟩
    · have h1 : (x.who == who) = false := by rw [beq_eq_false_iff_ne]; exact h
      have h2 : (who == x.who) = false := by rw [beq_eq_false_iff_ne]; exact fun e => h e.symm
      rw [h1, h2, decide_eq_false h, Bool.false_or]
      exact ih
/-- .. in whose map these spots stand. -/
def LkI (w : World) (lb : Nat) (D : LkS) (S : Nat → Prop) (p : Spot → Prop) : Prop := ∃ sb wb G, LkV w lb sb wb D (pairsW D.W) G S ∧ ∀ s, p s → ∃ g, (s, g) ∈ G
/-- What is handed back, and what is left. -/
def LeavesRet (lb : Nat) (D : LkS) (who : Int) (S : Nat → Prop) (w : World) (e : Ending) (w' : World) : Prop :=
  (wishL D.W who = none ∧ e = .returned (.tuple #[spV (0, false, 0), .bool false]) ∧ LkA w' lb D S ∧ Fr w w' S) ∨
  ∃ x, wishL D.W who = some x ∧ e = .returned (.tuple #[spV x.s, .bool true]) ∧ LkI w' lb { D with W := dropA D.W who } S (fun s => s = x.s) ∧ Fr w w' S
set_option maxRecDepth 100000 in
set_option maxHeartbeats 4000000 in
theorem leaves_any {lb : Nat} {D : LkS} {S : Nat → Prop} {N : Nat} (who : Int) (w : World) (h : LkA w lb D S) (hD : DOk N D) (hN : N ≤ 100000) (hw : (Lit.int .i64 who).wf = true) :
    Calls Tryz.prog 46 #[lkp lb, .int .i64 who] w (LeavesRet lb D who S w) := by
  obtain ⟨sb, wb, G, hv⟩ := h
  obtain ⟨w0, hw0⟩ : ∃ w0, w.alloc (.cells #[.int .i64 0, .bool false, .int .i64 0] 30) = w0 := ⟨_, rfl⟩
  have hf0 : Fr w w0 Nil := by rw [← hw0]; exact (Fr.refl w Nil).alloc _
  have hv0 := hv.fr0 hf0
  have hlk := look_wait hv0.waits hw
  have q2 : w0.cell? ⟨lb, 2, none⟩ = some (.map (some wb)) := hv0.root.cell 2
  have hb4 : Bk w0 w.heap.size 30 [.int .i64 0, .bool false, .int .i64 0] := by rw [← hw0]; exact Bk.new w _ _
  have hres : ∀ (W : World) (sp : Spot), Bk W w.heap.size 30 [.int .i64 0, .bool false, .int .i64 0] → Bk (((W.setCell ⟨w.heap.size, 0, none⟩ (.int .i64 sp.1)).setCell ⟨w.heap.size, 1, none⟩ (.bool sp.2.1)).setCell ⟨w.heap.size, 2, none⟩ (.int .i64 sp.2.2)) w.heap.size 30 [.int .i64 sp.1, .bool sp.2.1, .int .i64 sp.2.2] :=
    fun W sp hb => ((hb.set 0 (.int .i64 sp.1)).set 1 (.bool sp.2.1)).set 2 (.int .i64 sp.2.2)
  have hresf : ∀ (W : World) (sp : Spot), Fr W (((W.setCell ⟨w.heap.size, 0, none⟩ (.int .i64 sp.1)).setCell ⟨w.heap.size, 1, none⟩ (.bool sp.2.1)).setCell ⟨w.heap.size, 2, none⟩ (.int .i64 sp.2.2)) (fun k => k = w.heap.size) :=
    fun W sp => ((Fr.store W _ _ _).trans (Fr.store _ _ _ _) fun _ _ h => h).trans (Fr.store _ _ _ _) fun _ _ h => h
  have HRES := Lib.hid hres
  have HRESF := Lib.hid hresf
  clear hres hresf
  have HV := Lib.hid hv
  have HF0 := Lib.hid hf0
  have HB4 := Lib.hid hb4
  have HD := Lib.hid hD
  have HW := Lib.hid hw
  have HN := Lib.hid hN
  cases hwi : wishL D.W who with
  | none =>
    have HWI := Lib.hid hwi
    have hc := (wish_pairs (W := D.W) (who := who)).1 hwi
    rw [hc] at hlk
    obtain ⟨gv, hgv⟩ : ∃ x, getV (pairsW D.W) who (0, false, 0) = x := ⟨_, rfl⟩
    have hgz : gv = (0, false, 0) := by rw [← hgv]; exact getV_none (by rw [← hc])
    rw [hgv, hgz] at hlk
    clear hv hf0 hv0 hb4 hD hw hN hwi hc hgv hgz
    go_enter Tryz.func46, Tryz.ntmps46
    have hb1 := HB4.out.alloc (.cells #[.int .i64 0, .bool false, .int .i64 0] 30)
    have c0 : (w0.alloc (.cells #[.int .i64 0, .bool false, .int .i64 0] 30)).cell? ⟨w.heap.size, 0, none⟩ = some (.int .i64 0) := hb1.cell 0
    have c1 : (w0.alloc (.cells #[.int .i64 0, .bool false, .int .i64 0] 30)).cell? ⟨w.heap.size, 1, none⟩ = some (.bool false) := hb1.cell 1
    have c2 : (w0.alloc (.cells #[.int .i64 0, .bool false, .int .i64 0] 30)).cell? ⟨w.heap.size, 2, none⟩ = some (.int .i64 0) := hb1.cell 2
    have f0 := hb1.free 0
    have f1 := hb1.free 1
    have f2 := hb1.free 2
    have HB1 := Lib.hid hb1
    clear hb1
    go_wp2_with fail
    clear c0 c1 c2 f0 f1 f2 q2 hlk
    have hb2 := HRES.out _ (0, false, 0) HB1.out
    have hf2 := HRESF.out (w0.alloc (.cells #[.int .i64 0, .bool false, .int .i64 0] 30)) (0, false, 0)
    obtain ⟨w2, hw2⟩ : ∃ w2, (((w0.alloc (.cells #[.int .i64 0, .bool false, .int .i64 0] 30)).setCell ⟨w.heap.size, 0, none⟩ (.int .i64 0)).setCell ⟨w.heap.size, 1, none⟩ (.bool false)).setCell ⟨w.heap.size, 2, none⟩ (.int .i64 0) = w2 := ⟨_, rfl⟩
    rw [hw2] at hb2 hf2 ⊢
    have t0 : w2.cell? ⟨w.heap.size, 0, none⟩ = some (.int .i64 0) := hb2.cell 0
    have t1 : w2.cell? ⟨w.heap.size, 1, none⟩ = some (.bool false) := hb2.cell 1
    have t2 : w2.cell? ⟨w.heap.size, 2, none⟩ = some (.int .i64 0) := hb2.cell 2
    refine bodyPost_ret (by simp [results, Tryz.results46, go_sem, t0, t1, t2]; try rfl) rfl ?_
    have hfw : Fr w w2 Nil := (HF0.out.alloc _).trans hf2 fun k hk e => by omega
    exact .inl ⟨HWI.out, rfl, ⟨sb, wb, G, HV.out.fr0 hfw⟩, hfw.of_nil⟩
  | some x =>
    have HWI := Lib.hid hwi
    have hc := (wish_pairs (W := D.W) (who := who)).2 x hwi
    rw [hc.1, hc.2] at hlk
    obtain ⟨hxW, hxw⟩ := wish_some hwi
    have hws : SWf x.s := (hD.wf.2 x hxW).2
    have HXW := Lib.hid hxW
    have HXX := Lib.hid hxw
    obtain ⟨s, hs⟩ : ∃ s, x.s = s := ⟨_, rfl⟩
    rw [hs] at hlk hws
    have hin : ∃ g, (s, g) ∈ G := by
      apply Classical.byContradiction
      intro hn
      obtain ⟨_, g2, g3⟩ := hv.gone s fun p hp e => hn ⟨p.2, by rw [← e]; exact hp⟩
      have e2 : upL D.H D.W s = [] := List.map_eq_nil_iff.1 g2
      have e3 : restL D.H D.W s = [] := List.map_eq_nil_iff.1 g3
      by_cases h0 : heldL D.H x.who s = 0
      · have : x ∈ restL D.H D.W s := List.mem_filter.2 ⟨hxW, by simp [hs, h0]⟩
        rw [e3] at this; cases this
      · have : x ∈ upL D.H D.W s := List.mem_filter.2 ⟨hxW, by simp [hs, h0]⟩
        rw [e2] at this; cases this
    obtain ⟨g, hg⟩ := hin
    have HG := Lib.hid hg
    have HS := Lib.hid hs
    obtain ⟨w1, hw1⟩ : ∃ w1, w0.alloc (.cells #[.int .i64 s.1, .bool s.2.1, .int .i64 s.2.2] 30) = w1 := ⟨_, rfl⟩
    have hf1 : Fr w0 w1 Nil := by rw [← hw1]; exact (Fr.refl w0 Nil).alloc _
    have hb6 : Bk w1 w0.heap.size 30 [.int .i64 s.1, .bool s.2.1, .int .i64 s.2.2] := by rw [← hw1]; exact Bk.new w0 _ _
    have hv1 := hv0.fr0 hf1
    have k1 : ∀ w', KeptN w1 w' → w'.cell? ⟨lb, 1, none⟩ = some (.map (some sb)) := KeptN.cell (hv1.root.cell 1)
    have k2 : ∀ w', KeptN w1 w' → w'.cell? ⟨w0.heap.size, 0, none⟩ = some (.int .i64 s.1) := KeptN.cell (hb6.cell 0)
    have k3 : ∀ w', KeptN w1 w' → w'.cell? ⟨w0.heap.size, 1, none⟩ = some (.bool s.2.1) := KeptN.cell (hb6.cell 1)
    have k4 : ∀ w', KeptN w1 w' → w'.cell? ⟨w0.heap.size, 2, none⟩ = some (.int .i64 s.2.2) := KeptN.cell (hb6.cell 2)
    have k5 : ∀ w', KeptN w1 w' → (Instr.lookup 56 (.map (some sb)) (.agg #[.int .i64 s.1, .bool s.2.1, .int .i64 s.2.2]) false).run Tryz.prog w' = .ok (xptr g.xb) w' := fun w' hk' => look_spot_in (hv1.fr0 hk').spots hws hg
    have HB6 := Lib.hid hb6
    have HF1 := Lib.hid hf1
    have HV1 := Lib.hid hv1
    clear hv hf0 hv0 hb4 hD hw hN hwi hc hxW hxw hs hg hf1 hb6 hv1 hws
    go_enter Tryz.func46, Tryz.ntmps46
    go_wp2_with fail
    refine wp_region_sink 6 (KeptN w1) (by kernel_rfl) ?_
    have hSa : KeptN w1 w1.drew := KeptN.start w1
    refine tk 0 hSa ?_
    refine tk 1 hSa ?_
    refine tk 2 hSa ?_
    try simp only [Act.put, sA, sB, sC]
    refine tk 3 hSa ?_ (hy := by intro _ w; have ck1 := k1 _ w; go_simp <;> with_reducible rfl)
    try simp only [Act.put, sA, sB, sC]
    refine tk 4 hSa ?_ (hy := by intro _ w; have ck2 := k2 _ w; have ck3 := k3 _ w; have ck4 := k4 _ w; go_simp <;> with_reducible rfl)
    try simp only [Act.put, sA, sB, sC]
    refine tk 5 hSa ?_ (hy := by intro _ w; have ck5 := k5 _ w; go_simp <;> with_reducible rfl)
    try simp only [Act.put, sA, sB, sC]
    refine wpAnyS_last (i := 6) rfl (by kernel_rfl) (by decide) (by kernel_rfl) (by rfl) fun K hK => ?_
    go_simp
    refine hK.out _ _ ?_
    clear hK K
    have HF2 := Lib.hid hSa.fr
    clear hSa k1 k2 k3 k4 k5 q2 hlk
    have hx := (HV1.out.fr0 HF2.out).at_ _ HG.out
    have HX := Lib.hid hx
    obtain ⟨wq, hwq⟩ : ∃ wq, w1.drew = wq := ⟨_, rfl⟩
    rw [hwq] at HX HF2 hx
    have k2 : ∀ w', GrS wq g w' → w'.cell? ⟨g.xb, 2, none⟩ = some g.rv := GrS.rv
    have HS0 : Hid (GrS wq g wq.drew) := ⟨(Fr.refl wq _).drew, hx.box.cell 2⟩
    have q1 : wq.cell? ⟨g.xb, 1, none⟩ = some g.uv := hx.box.cell 1
    obtain ⟨ra, rc, hrv⟩ := hx.rest.shape
    obtain ⟨ua, uc, huv⟩ := hx.up.shape
    clear hx
    go_wp2_with fail
    refine wp_region_sink 19 (GrS wq g) (by kernel_rfl) ?_
    have hSa := HS0.out
    refine tk 0 hSa ?_
    refine tk 1 hSa ?_
    refine tk 2 hSa ?_
    refine tk 3 hSa ?_
    refine tk 4 hSa ?_
    refine tk 6 hSa ?_
    refine tk 8 hSa ?_
    refine tk 9 hSa ?_
    refine tk 10 hSa ?_
    try simp only [Act.put, sA, sB, sC]
    refine tk 11 hSa ?_ (hy := by intro _ w; have ck2 := k2 _ w; go_simp <;> with_reducible rfl)
    try simp only [Act.put, sA, sB, sC]
    refine tk 12 hSa ?_
    try simp only [Act.put, sA, sB, sC]
    refine on1 5 fun K hK => ?_
    go_simp
    have hu0 := HX.out.up
    have hr0 := HX.out.rest
    rw [huv] at hu0
    rw [hrv] at hr0
    have hfew := queue_few HD.out s
    have hl1 : (prs (upL D.H D.W s)).length ≤ 1000000 := by have := HN.out; omega
    have hl2 : (prs (restL D.H D.W s)).length ≤ 1000000 := by have := HN.out; omega
    have hup : ∀ k, ownOf (.slice ua (prs (upL D.H D.W s)).length uc) k → g.own k := fun k hk => .inr (.inr (.inl (by rw [huv]; exact hk)))
    have hre : ∀ k, ownOf (.slice ra (prs (restL D.H D.W s)).length rc) k → g.own k := fun k hk => .inr (.inr (.inr (by rw [hrv]; exact hk)))
    have hux : ¬ ownOf (.slice ua (prs (upL D.H D.W s)).length uc) g.xb := fun hk => HX.out.ux (by rw [huv]; exact hk)
    have hrx : ¬ ownOf (.slice ra (prs (restL D.H D.W s)).length rc) g.xb := fun hk => HX.out.rx (by rw [hrv]; exact hk)
    have hfar : ∀ k, (Value.slice ra (prs (restL D.H D.W s)).length rc).ownBlock = some k → ¬ ownOf (.slice ua (prs (upL D.H D.W s)).length uc) k := fun k hk hk2 => HX.out.far k (by rw [huv]; exact hk2) (by rw [hrv]; exact hk)
    refine hK.out _ _ hSa ?_
    clear hK K
    try simp only [Act.put, sA, sB, sC]
    refine on1 7 fun K hK => ?_
    go_simp
    refine (without_any (hu0.fr (Fr.refl wq Nil).drew fun _ _ h => h) hl1).mono ?_
    rintro e' w3 ⟨v3, rfl, h31, h32, h33⟩
    obtain ⟨a3, c3, rfl⟩ := h31.shape
    have hf3 : Fr wq w3 (ownOf (.slice ua (prs (upL D.H D.W s)).length uc)) := ((Fr.refl wq _).drew).trans h33 fun _ _ h => h
    have hSb : GrS wq g w3 := ⟨hf3.mono fun k _ hk => hup k hk, by
      have := hf3.cell (HX.out.box.cell 2) hux
      exact this⟩
    refine hK.out _ _ hSb ?_
    clear hK K hSa h33
    try simp only [Act.put, sA, sB, sC]
    refine on1 13 fun K hK => ?_
    go_simp
    refine (without_any (hr0.fr hf3 hfar) hl2).mono ?_
    rintro e' w4 ⟨v4, rfl, h41, h42, h43⟩
    obtain ⟨a4, c4, rfl⟩ := h41.shape
    have hf4 : Fr wq w4 g.own := (hf3.mono fun k _ hk => hup k hk).trans h43 fun k _ hk => hre k hk
    have hb4 : Bk w4 g.xb 74 [.map (some g.hb), g.uv, g.rv] := (HX.out.box.fr hf3 hux).fr h43 hrx
    have hSc : GrS wq g w4 := ⟨hf4, hb4.cell 2⟩
    refine hK.out _ _ hSc ?_
    clear hK K hSb
    have c1 : w4.cell? ⟨g.xb, 1, none⟩ = some g.uv := hb4.cell 1
    have f1 := hb4.free 1
    try simp only [Act.put, sA, sB, sC]
    refine tk 14 hSc ?_
    refine tk 15 hSc ?_
    try simp only [Act.put, sA, sB, sC]
    refine on1 16 fun K hK => ?_
    go_simp
    have hb5 := hb4.set 1 (.slice a3 (notOf who (prs (upL D.H D.W s))).length c3)
    have hf5 : Fr wq (w4.setCell ⟨g.xb, 1, none⟩ (.slice a3 (notOf who (prs (upL D.H D.W s))).length c3)) g.own := Fr.setCell (p := ⟨g.xb, 1, none⟩) hf4 (fun _ => .inl rfl) _
    have h35 := h31.fr h43 fun k hk hk2 => hfar k hk2 (h32 k hk)
    have hu3x : (Value.slice a3 (notOf who (prs (upL D.H D.W s))).length c3).ownBlock ≠ some g.xb := fun hk => hux (h32 _ hk)
    have hr4x : (Value.slice a4 (notOf who (prs (restL D.H D.W s))).length c4).ownBlock ≠ some g.xb := fun hk => hrx (h42 _ hk)
    have hs5 : Fr w4 (w4.setCell ⟨g.xb, 1, none⟩ (.slice a3 (notOf who (prs (upL D.H D.W s))).length c3)) (fun k => k = g.xb) := Fr.store _ _ _ _
    have h55 := h35.fr hs5 fun k hk e => hu3x (by rw [hk, e])
    have h56 := h41.fr hs5 fun k hk e => hr4x (by rw [hk, e])
    obtain ⟨w5, hw5⟩ : ∃ w5, w4.setCell ⟨g.xb, 1, none⟩ (.slice a3 (notOf who (prs (upL D.H D.W s))).length c3) = w5 := ⟨_, rfl⟩
    rw [hw5] at hb5 hf5 hs5 h55 h56 ⊢
    have hSd : GrS wq g w5 := ⟨hf5, hb5.cell 2⟩
    refine hK.out _ _ hSd ?_
    clear hK K hSc c1 f1
    have c2 : w5.cell? ⟨g.xb, 2, none⟩ = some g.rv := hb5.cell 2
    have f2 := hb5.free 2
    try simp only [Act.put, sA, sB, sC]
    refine tk 17 hSd ?_
    refine tk 18 hSd ?_
    try simp only [Act.put, sA, sB, sC]
    refine wpAnyS_last (i := 19) rfl (by kernel_rfl) (by decide) (by kernel_rfl) (by rfl) fun K hK => ?_
    go_simp
    have hb6 := hb5.set 2 (.slice a4 (notOf who (prs (restL D.H D.W s))).length c4)
    have hf6 : Fr wq (w5.setCell ⟨g.xb, 2, none⟩ (.slice a4 (notOf who (prs (restL D.H D.W s))).length c4)) g.own := Fr.setCell (p := ⟨g.xb, 2, none⟩) hf5 (fun _ => .inl rfl) _
    have hs6 : Fr w5 (w5.setCell ⟨g.xb, 2, none⟩ (.slice a4 (notOf who (prs (restL D.H D.W s))).length c4)) (fun k => k = g.xb) := Fr.store _ _ _ _
    have h65 := h55.fr hs6 fun k hk e => hu3x (by rw [hk, e])
    have h66 := h56.fr hs6 fun k hk e => hr4x (by rw [hk, e])
    have hm3 := (HX.out.holds.fr hf3 fun hk => HX.out.uh (by rw [huv]; exact hk)).fr h43 fun hk => HX.out.rh (by rw [hrv]; exact hk)
    have hm6 := (hm3.fr hs5 fun e => HX.out.xh e.symm).fr hs6 fun e => HX.out.xh e.symm
    obtain ⟨w6, hw6⟩ : ∃ w6, w5.setCell ⟨g.xb, 2, none⟩ (.slice a4 (notOf who (prs (restL D.H D.W s))).length c4) = w6 := ⟨_, rfl⟩
    rw [hw6] at hb6 hf6 hs6 h65 h66 hm6 ⊢
    refine hK.out _ _ ?_
    clear hK K hSd c2 f2
    have hgr : ∃ G', LkV w6 lb sb wb { D with W := dropA D.W who } (pairsW D.W) G' S ∧ ∃ g', (s, g') ∈ G' := by
      have h1 := LkV.leave (e := x) (s := s) (g := g) (HV1.out.fr0 HF2.out) HD.out.inv HXW.out HS.out HG.out hb6 hm6 (by rw [HXX.out]; exact h65) (by rw [HXX.out]; exact h66) (fun k hk => by rw [huv]; exact h32 k hk) (fun k hk => by rw [hrv]; exact h42 k hk) hf6
      rw [HXX.out] at h1
      exact h1
    obtain ⟨G', hv6, hin6⟩ := hgr
    have hwS : ∀ k, S k → k < w.heap.size := HV.out.lt
    have hfo : ∀ k, g.own k → S k := fun k hk => HV1.out.inX _ HG.out k hk
    have hf06 : Fr w0 w6 S := (((HF1.out.trans0 HF2.out)).of_nil).trans hf6 fun k _ hk => hfo k hk
    have q6 : w6.cell? ⟨lb, 2, none⟩ = some (.map (some wb)) := hv6.root.cell 2
    obtain ⟨w7, hdel, hm7, hf7⟩ := del_wait hv6.waits HW.out 0
    have hv7 : LkV w7 lb sb wb { D with W := dropA D.W who } (pairsW (dropA D.W who)) G' S := by
      have h1 := LkG.waitsTo hv6 hm7 hf7
      rw [← pairsW_drop] at h1
      exact h1
    have hf07 : Fr w0 w7 S := hf06.trans hf7 fun k _ e => by rw [e]; exact hv6.inW
    have hs0 := HF0.out.size
    have hb47 : Bk w7 w.heap.size 30 [.int .i64 0, .bool false, .int .i64 0] := HB4.out.fr hf07 fun h => by have := hwS _ h; omega
    have hb67 : Bk w7 w0.heap.size 30 [.int .i64 s.1, .bool s.2.1, .int .i64 s.2.2] := by
      have h1 := (HB6.out.fr HF2.out fun h => h).fr hf6 fun h => by have := hwS _ (hfo _ h); omega
      exact h1.fr hf7 fun e => by have := hwS _ hv6.inW; have h2 : w0.heap.size = wb := e; omega
    have c0 : w7.cell? ⟨w.heap.size, 0, none⟩ = some (.int .i64 0) := hb47.cell 0
    have c1 : w7.cell? ⟨w.heap.size, 1, none⟩ = some (.bool false) := hb47.cell 1
    have c2 : w7.cell? ⟨w.heap.size, 2, none⟩ = some (.int .i64 0) := hb47.cell 2
    have f0 := hb47.free 0
    have f1 := hb47.free 1
    have f2 := hb47.free 2
    have r0 : w7.cell? ⟨w0.heap.size, 0, none⟩ = some (.int .i64 s.1) := hb67.cell 0
    have r1 : w7.cell? ⟨w0.heap.size, 1, none⟩ = some (.bool s.2.1) := hb67.cell 1
    have r2 : w7.cell? ⟨w0.heap.size, 2, none⟩ = some (.int .i64 s.2.2) := hb67.cell 2
    have HV7 := Lib.hid hv7
    have HIN6 := Lib.hid hin6
    have HF07 := Lib.hid hf07
    have HB47 := Lib.hid hb47
    have HWS := Lib.hid hwS
    clear hv6 hin6 hwS hfo hf06 hm7 hf7 hv7 hf07 hs0 hb47 hb67 hb6 hf6 hs6 h65 h66 hm6 hm3 h55 h56 hs5 hf5 hb5 h35 hu3x hr4x h32 h42 h31 h41 h43 hf4 hb4 hf3 hu0 hr0 hup hre hux hrx hfar hl1 hl2 hfew hw5 hw6 q1 HS0 k2
    go_wp2_with fail
    clear c0 c1 c2 f0 f1 f2 r0 r1 r2 q6 hdel
    have hb2 := HRES.out w7 s HB47.out
    have hf2 := HRESF.out w7 s
    obtain ⟨w8, hw8⟩ : ∃ w8, ((w7.setCell ⟨w.heap.size, 0, none⟩ (.int .i64 s.1)).setCell ⟨w.heap.size, 1, none⟩ (.bool s.2.1)).setCell ⟨w.heap.size, 2, none⟩ (.int .i64 s.2.2) = w8 := ⟨_, rfl⟩
    rw [hw8] at hb2 hf2 ⊢
    have t0 : w8.cell? ⟨w.heap.size, 0, none⟩ = some (.int .i64 s.1) := hb2.cell 0
    have t1 : w8.cell? ⟨w.heap.size, 1, none⟩ = some (.bool s.2.1) := hb2.cell 1
    have t2 : w8.cell? ⟨w.heap.size, 2, none⟩ = some (.int .i64 s.2.2) := hb2.cell 2
    refine bodyPost_ret (by simp [results, Tryz.results46, go_sem, t0, t1, t2]; try rfl) rfl ?_
    refine .inr ⟨x, HWI.out, by rw [HS.out], ⟨sb, wb, G', HV7.out.fr hf2 fun k hk e => ?_, fun s' h => by rw [h, HS.out]; exact HIN6.out⟩, ?_⟩
    · have := HWS.out k hk; omega
    · refine (HF0.out.of_nil.trans HF07.out fun _ _ h => h).trans hf2 fun k hk e => by omega
end Go.Proofs.YtokeciekncincabGreat
