/-
  Of those that wait without holding none is granted ahead of one that asked earlier. Plain.
  No condition.
-/
import Derived.Test.YtokeciekncincabGreatPkC1
import Derived.Test.YtokeciekncincabGreatPkC18
import Derived.Test.YtokeciekncincabGreatPkC20
namespace Go.Proofs.YtokeciekncincabGreat
open Go

/-- Who waits for a spot without holding it, as they asked. -/
def askd (D : LkS) (s : Spot) : List Int := (restL D.H D.W s).map LkE.who
theorem wishL_dropA (W : List LkE) (who x : Int) : wishL (dropA W who) x = if x = who then none else wishL W x := by
  unfold wishL dropA
  induction W with
  | nil => simp
  | cons e W ih =>
    rw [List.filter_cons]
    by_cases h1 : e.who = who
    · rw [if_neg (by simp [h1]), ih]
      by_cases h2 : x = who
      · rw [if_pos h2]; rw [if_pos h2]
      · rw [if_neg h2, if_neg h2, List.find?_cons]
        have : (e.who == x) = false := by rw [beq_eq_false_iff_ne]; exact fun h => h2 (h.symm.trans h1)
        rw [this]
    · rw [if_pos (by simpa using h1), List.find?_cons, List.find?_cons, ih]
      by_cases h2 : x = who
      · rw [if_pos h2, if_pos h2]
        have : (e.who == x) = false := by rw [beq_eq_false_iff_ne]; exact fun h => h1 (h.trans h2)
        rw [this]
      · rw [if_neg h2, if_neg h2]
theorem wish_of {W : List LkE} (hn : W.Pairwise fun a b => a.who ≠ b.who) {e : LkE} (he : e ∈ W) : wishL W e.who = some e := by
  cases h : wishL W e.who with
  | none => exact absurd rfl (wish_none h e he)
  | some f =>
    obtain ⟨h1, h2⟩ := wish_some h
    by_cases e2 : f = e
    · rw [e2]
    · exact absurd h2 (pw_ne hn h1 he e2)
theorem mem_askd {D : LkS} {s : Spot} {x : Int} : x ∈ askd D s ↔ ∃ e ∈ D.W, e.who = x ∧ e.s = s ∧ heldL D.H x s = 0 := by
  unfold askd restL
  constructor
  · intro hx
    obtain ⟨e, he, rfl⟩ := List.mem_map.1 hx
    obtain ⟨h1, h2⟩ := List.mem_filter.1 he
    rw [Bool.and_eq_true, beq_iff_eq, beq_iff_eq] at h2
    exact ⟨e, h1, rfl, h2⟩
  · rintro ⟨e, he, rfl, hs, h0⟩
    exact List.mem_map.2 ⟨e, List.mem_filter.2 ⟨he, by rw [Bool.and_eq_true, beq_iff_eq, beq_iff_eq]; exact ⟨hs, h0⟩⟩, rfl⟩
theorem askd_nodup {D : LkS} (h : LInv D) (s : Spot) : (askd D s).Nodup := by
  unfold askd restL List.Nodup
  rw [List.pairwise_map]
  exact h.wn.filter _
theorem restL_dropA' (H W : List LkE) (who : Int) (s : Spot) : (restL H (dropA W who) s).map LkE.who = ((restL H W s).map LkE.who).filter fun x => x != who := by
  rw [List.filter_map]
  refine congrArg _ ?_
  unfold restL dropA
  rw [List.filter_filter, List.filter_filter]
  refine List.filter_congr fun e _ => ?_
  simp only [Function.comp]
  rw [Bool.and_comm]
theorem filter_id {l : List Int} {x : Int} (h : x ∉ l) : (l.filter fun y => y != x) = l := List.filter_eq_self.2 fun y hy => by
  rw [bne_iff_ne]; exact fun e => h (e ▸ hy)
/-- What regranting does to those that wait. -/
structure RegOrd (D D' : LkS) (s : Spot) (wk : List Int) : Prop where
  cut : ∃ T, askd D s = T ++ askd D' s
  woken : ∀ x ∈ wk, wishL D'.W x = none ∧ heldL D'.H x s ≠ 0
  still : ∀ x, wishL D'.W x ≠ none → wishL D.W x = wishL D'.W x ∧ heldL D'.H x s = heldL D.H x s
  kept : ∀ x, wishL D.W x = none → wishL D'.W x = none ∧ (heldL D.H x s ≠ 0 → heldL D'.H x s ≠ 0)
theorem RegOrd.refl (D : LkS) (s : Spot) : RegOrd D D s [] := ⟨⟨[], rfl⟩, (fun x hx => by cases hx), fun x _ => ⟨rfl, rfl⟩, fun x h => ⟨h, id⟩⟩
theorem regrant_ord (s : Spot) : ∀ (t : Nat) (D : LkS), LInv D → RegOrd D (regrantL t D s).2 s (regrantL t D s).1
  | 0, D, _ => RegOrd.refl D s
  | t + 1, D, h => by
    unfold regrantL
    split
    · exact RegOrd.refl D s
    · rename_i e l hq
      split
      · obtain ⟨heW, hes⟩ := queueL_mem (H := D.H) (W := D.W) (e := e) (s := s) (by rw [hq]; exact List.mem_cons_self)
        have hi := grantL_inv h heW s
        have ih := regrant_ord s t (grantL D e s) hi
        have hw1 : ∀ x, wishL (grantL D e s).W x = if x = e.who then none else wishL D.W x := fun x => wishL_dropA D.W e.who x
        have hh1 : ∀ x, heldL (grantL D e s).H x s = if x = e.who then e.m else heldL D.H x s := fun x => by
          show heldL (putH D.H e.who s e.m) x s = _
          rw [heldL_putH]
          by_cases hx : x = e.who
          · rw [if_pos ⟨hx, rfl⟩, if_pos hx]
          · rw [if_neg (fun h => hx h.1), if_neg hx]
        have hcut : ∃ T, askd D s = T ++ askd (grantL D e s) s := by
          have h1 : askd (grantL D e s) s = (askd D s).filter fun x => x != e.who := by
            unfold askd
            show (restL (putH D.H e.who s e.m) (dropA D.W e.who) s).map LkE.who = _
            rw [restL_grant, List.filter_map]
            rfl
          rw [h1]
          unfold queueL at hq
          cases hu : upL D.H D.W s with
          | cons f u =>
            rw [hu, List.cons_append] at hq
            have hfe : f = e := (List.cons.inj hq).1
            subst hfe
            have hup := (List.mem_filter.1 (show f ∈ upL D.H D.W s by rw [hu]; exact List.mem_cons_self)).2
            rw [Bool.and_eq_true, bne_iff_ne] at hup
            have hn : f.who ∉ askd D s := fun hm => by
              obtain ⟨_, _, _, _, h0⟩ := mem_askd.1 hm
              exact hup.2 h0
            exact ⟨[], by rw [filter_id hn]; rfl⟩
          | nil =>
            rw [hu, List.nil_append] at hq
            have ha : askd D s = e.who :: l.map LkE.who := by unfold askd; rw [hq]; rfl
            have hnd := askd_nodup h s
            rw [ha, List.nodup_cons] at hnd
            refine ⟨[e.who], ?_⟩
            rw [ha, List.filter_cons, if_neg (by simp), filter_id hnd.1]
            rfl
        obtain ⟨T1, hT1⟩ := hcut
        obtain ⟨T2, hT2⟩ := ih.cut
        refine ⟨⟨T1 ++ T2, by rw [hT1, hT2, List.append_assoc]⟩, fun x hx => ?_, fun x hx => ?_, fun x hx => ?_⟩
        · rcases List.mem_cons.1 hx with rfl | hx
          · obtain ⟨k1, k2⟩ := ih.kept e.who (by rw [hw1, if_pos rfl])
            exact ⟨k1, k2 (by rw [hh1, if_pos rfl]; exact (h.wm e heW).2)⟩
          · exact ih.woken x hx
        · obtain ⟨k1, k2⟩ := ih.still x hx
          have hne : x ≠ e.who := fun e2 => by
            rw [hw1, if_pos e2] at k1
            exact hx k1.symm
          rw [hw1, if_neg hne] at k1
          rw [hh1, if_neg hne] at k2
          exact ⟨k1, k2⟩
        · have hne : x ≠ e.who := fun e2 => by
            rw [e2, wish_of h.wn heW] at hx; cases hx
          obtain ⟨k1, k2⟩ := ih.kept x (by rw [hw1, if_neg hne]; exact hx)
          exact ⟨k1, fun h0 => k2 (by rw [hh1, if_neg hne]; exact h0)⟩
      · exact RegOrd.refl D s
/-- All that is, is at one spot. -/
def AtOne (s : Spot) (D : LkS) : Prop := AllE (fun _ t => t = s) D
theorem wokenL_one (D : LkS) (s : Spot) : wokenL D [s] = regrantL D.W.length D s := by
  show ((regrantL D.W.length D s).1 ++ [], (regrantL D.W.length D s).2) = _
  rw [List.append_nil]
/-- Behind one call: who asked, in order; what is left of them. -/
structure OrdStep (who : Int) (s : Spot) (A wk : List Int) (D' : LkS) : Prop where
  cut : ∃ (p : Int → Bool) (T : List Int), (∀ b, p b = false → b = who) ∧ A.filter p = T ++ askd D' s
  nd : A.Nodup
  still : ∀ x ∈ A, wishL D'.W x ≠ none → x ∈ askd D' s
  back : ∀ x ∈ askd D' s, wishL D'.W x ≠ none
  woken : ∀ x ∈ wk, wishL D'.W x = none ∧ heldL D'.H x s ≠ 0
theorem askd_back {D : LkS} (h : LInv D) {s : Spot} : ∀ x ∈ askd D s, wishL D.W x ≠ none := fun x hx => by
  obtain ⟨e, he, rfl, _⟩ := mem_askd.1 hx
  rw [wish_of h.wn he]
  exact fun h => by cases h
theorem in_askd {D : LkS} {s : Spot} (ha : AtOne s D) {x : Int} (hw : wishL D.W x ≠ none) (h0 : heldL D.H x s = 0) : x ∈ askd D s := by
  cases hx : wishL D.W x with
  | none => exact absurd hx hw
  | some e =>
    obtain ⟨h1, h2⟩ := wish_some hx
    exact mem_askd.2 ⟨e, h1, h2, ha.2 e h1, h0⟩
/-- Nothing is turned. -/
theorem ord_same {D : LkS} (h : LInv D) (who : Int) (s : Spot) : OrdStep who s (askd D s) [] D :=
  ⟨⟨fun _ => true, [], (fun b h => by cases h), by rw [List.filter_eq_self.2 fun _ _ => rfl]; rfl⟩, askd_nodup h s, fun _ h _ => h, askd_back h, fun x hx => by cases hx⟩
/-- Behind what was given up, s is regranted. -/
theorem ord_reg {D D1 : LkS} (h : LInv D) {s : Spot} (h1 : LInv D1) (ha1 : AtOne s D1) {who : Int} (p : Int → Bool) (hp : ∀ b, p b = false → b = who) (hcut : (askd D s).filter p = askd D1 s) (hs : ∀ x ∈ askd D s, wishL D1.W x ≠ none → heldL D1.H x s = 0) :
    OrdStep who s (askd D s) (regrantL D1.W.length D1 s).1 (regrantL D1.W.length D1 s).2 := by
  have hr := regrant_ord s D1.W.length D1 h1
  have hi := regrantL_inv s D1.W.length D1 h1
  have ha := all_regrant s D1.W.length D1 ha1
  obtain ⟨T, hT⟩ := hr.cut
  refine ⟨⟨p, T, hp, hcut.trans hT⟩, askd_nodup h s, fun x hx hw => ?_, askd_back hi, hr.woken⟩
  obtain ⟨k1, k2⟩ := hr.still x hw
  exact in_askd ha hw (k2.trans (hs x hx (by rw [k1]; exact hw)))
theorem ord_free {D : LkS} (h : LInv D) {s : Spot} (ha : AtOne s D) (who : Int) : OrdStep who s (askd D s) (freeL D who s).1.1 (freeL D who s).2 := by
  unfold freeL
  split
  · exact ord_same h who s
  rename_i hw
  have hw2 : ∀ e ∈ D.W, e.who ≠ who := wish_none (by simpa using hw)
  split
  · exact ord_same h who s
  dsimp only
  rw [wokenL_one]
  have hask : askd { D with H := dropS D.H who s } s = askd D s := by
    unfold askd
    show (restL (dropS D.H who s) D.W s).map LkE.who = _
    rw [restL_drop hw2]
  refine ord_reg h (drop_inv h who s) ⟨fun e he => ha.1 e (List.mem_filter.1 he).1, ha.2⟩ (fun _ => true) (fun b h => by cases h) ?_ fun x hx _ => ?_
  · rw [hask]; exact List.filter_eq_self.2 fun _ _ => rfl
  · obtain ⟨e, he, rfl, _, h0⟩ := mem_askd.1 hx
    show heldL (dropS D.H who s) e.who s = 0
    rw [heldL_dropS, if_neg fun h => hw2 e he h.1]
    exact h0
theorem ord_cancel {D : LkS} (h : LInv D) {s : Spot} (ha : AtOne s D) (who : Int) : OrdStep who s (askd D s) (cancelL D who).1.1 (cancelL D who).2 := by
  unfold cancelL
  split
  · exact ord_same h who s
  rename_i e he
  obtain ⟨he1, he2⟩ := wish_some he
  have hes : e.s = s := ha.2 e he1
  dsimp only
  rw [hes, wokenL_one]
  refine ord_reg h (dropA_inv h who) ⟨ha.1, fun f hf => ha.2 f (List.mem_filter.1 hf).1⟩ (fun x => x != who) (fun b hb => by rwa [bne_eq_false_iff_eq] at hb) ?_ fun x hx _ => ?_
  · exact (restL_dropA' D.H D.W who s).symm
  · obtain ⟨f, _, rfl, _, h0⟩ := mem_askd.1 hx
    exact h0
theorem leaveAll_one {D : LkS} {s : Spot} (ha : AtOne s D) (who : Int) : leaveAll D who = [] ∨ leaveAll D who = [s] := by
  have h1 : ∀ x ∈ leaveAll D who, x = s := fun x hx => by
    cases hw : wishL D.W who with
    | none =>
      obtain ⟨e, he, _, rfl⟩ := ((spotsL_is D.H who).2 x).1 ((leaveAll_none hw x).2 hx)
      exact ha.1 e he
    | some f =>
      rcases List.mem_append.1 ((leaveAll_some hw x).2 hx) with hx | hx
      · obtain ⟨e, he, _, rfl⟩ := ((spotsL_is D.H who).2 x).1 hx
        exact ha.1 e he
      · rw [List.mem_singleton.1 hx]
        exact ha.2 f (wish_some hw).1
  have h2 := leaveAll_sorted D who
  cases hl : leaveAll D who with
  | nil => exact .inl rfl
  | cons a l =>
    right
    rw [hl] at h1 h2
    have h3 := h1 a List.mem_cons_self
    cases l with
    | nil => rw [h3]
    | cons b l =>
      have h4 := h1 b (List.mem_cons_of_mem _ List.mem_cons_self)
      have h5 := (List.pairwise_cons.1 h2).1 b List.mem_cons_self
      rw [h3, h4, lessS_irrefl] at h5
      cases h5
theorem ord_leave {D : LkS} (h : LInv D) {s : Spot} (ha : AtOne s D) (who : Int) : OrdStep who s (askd D s) (leaveL D who).1 (leaveL D who).2 := by
  have hl := leave_inv h who
  have hal : AtOne s { D with H := D.H.filter fun e => e.who != who, W := dropA D.W who } := ⟨fun e he => ha.1 e (List.mem_filter.1 he).1, fun e he => ha.2 e (List.mem_filter.1 he).1⟩
  have hcut : (askd D s).filter (fun x => x != who) = askd { D with H := D.H.filter fun e => e.who != who, W := dropA D.W who } s := by
    unfold askd
    rw [← restL_dropA']
    refine congrArg _ ?_
    show restL D.H (dropA D.W who) s = restL (D.H.filter fun e => e.who != who) (dropA D.W who) s
    unfold restL
    refine List.filter_congr fun e he => ?_
    have hne := (List.mem_filter.1 he).2
    rw [bne_iff_ne] at hne
    rw [heldL_leave D.H hne]
  have hst : ∀ x ∈ askd D s, wishL (dropA D.W who) x ≠ none → heldL (D.H.filter fun e => e.who != who) x s = 0 := fun x hx hw => by
    obtain ⟨f, _, rfl, _, h0⟩ := mem_askd.1 hx
    have hne : f.who ≠ who := fun e => hw (by rw [wishL_dropA, if_pos e])
    rw [heldL_leave D.H hne]
    exact h0
  unfold leaveL
  rcases leaveAll_one ha who with h0 | h0
  · rw [h0]
    refine ⟨⟨fun x => x != who, [], (fun b hb => by rwa [bne_eq_false_iff_eq] at hb), hcut⟩, askd_nodup h s, fun x hx hw => in_askd hal hw (hst x hx hw), askd_back hl, fun x hx => by cases hx⟩
  · rw [h0, wokenL_one]
    exact ord_reg h hl hal (fun x => x != who) (fun b hb => by rwa [bne_eq_false_iff_eq] at hb) hcut hst
/-- What Ask does to those that wait. -/
theorem ord_ask {D : LkS} (h : LInv D) {s : Spot} (who m : Int) :
    OrdStep who s (if (askL D who s m).1 = (false, 0) ∧ heldL D.H who s = 0 then askd D s ++ [who] else askd D s) [] (askL D who s m).2 ∧ ((askL D who s m).1.1 = true → heldL D.H who s = 0 → askd D s = []) := by
  unfold askL
  split
  · rw [if_neg (by rintro ⟨h1, _⟩; cases h1)]
    exact ⟨ord_same h who s, fun h => by cases h⟩
  rename_i hmay
  have hmay : mayL s m = true := by simpa using hmay
  unfold mayL at hmay
  simp only [Bool.and_eq_true, decide_eq_true_eq, bne_iff_ne] at hmay
  have hm : ModeOk m := ⟨hmay.1.1.1.1, hmay.1.1.1.2⟩
  have hm0 := hmay.1.1.2
  split
  · rw [if_neg (by rintro ⟨h1, _⟩; cases h1)]
    exact ⟨ord_same h who s, fun h => by cases h⟩
  rename_i hw
  have hwn : wishL D.W who = none := by simpa using hw
  have hw2 : ∀ e ∈ D.W, e.who ≠ who := wish_none hwn
  split
  · rename_i hc
    rw [if_neg (by rintro ⟨h1, _⟩; cases h1)]
    refine ⟨ord_same h who s, fun _ h0 => ?_⟩
    rw [h0] at hc
    exfalso
    revert hc
    rcases mode_cases hm with rfl | rfl | rfl | rfl | rfl | rfl <;> first | exact absurd rfl hm0 | decide
  split
  · rw [if_neg (by rintro ⟨h1, _⟩; cases h1)]
    exact ⟨ord_same h who s, fun h => by cases h⟩
  rename_i hlim
  have hj := joinM_ok (heldL_ok h who s) hm
  have hj0 := joinM_ne (heldL_ok h who s) hm hm0
  split
  · rename_i hcan
    rw [if_neg (by rintro ⟨h1, _⟩; cases h1)]
    have hi := putH_inv h who s hj.1 hj0
    have hask : askd { D with H := putH D.H who s (joinM (heldL D.H who s) m) } s = askd D s := by
      unfold askd
      show (restL (putH D.H who s _) D.W s).map LkE.who = _
      rw [restL_put hw2]
    refine ⟨⟨⟨fun _ => true, [], (fun b h => by cases h), ?_⟩, askd_nodup h s, (fun x hx _ => by rw [hask]; exact hx), askd_back hi, fun x hx => by cases hx⟩, fun _ h0 => ?_⟩
    · rw [hask]; exact List.filter_eq_self.2 fun _ _ => rfl
    · have hq := hcan.2.resolve_left (fun h => h h0)
      unfold queueL at hq
      unfold askd
      rw [(List.append_eq_nil_iff.1 hq).2]
      rfl
  · have hi : LInv { D with W := D.W ++ [⟨s, who, joinM (heldL D.H who s) m⟩] } := by
      refine ⟨h.hn, h.hm, ?_, fun e he => ?_⟩
      · show (D.W ++ [_]).Pairwise _
        rw [List.pairwise_append]
        refine ⟨h.wn, List.pairwise_singleton _ _, fun a ha b hb => ?_⟩
        rw [List.mem_singleton] at hb
        subst hb
        exact hw2 a ha
      · rcases List.mem_append.1 he with he | he
        · exact h.wm e he
        · rw [List.mem_singleton] at he
          subst he
          exact ⟨hj.1, hj0⟩
    refine ⟨?_, fun h => by cases h⟩
    dsimp only
    by_cases h0 : heldL D.H who s = 0
    · have hask : askd { D with W := D.W ++ [⟨s, who, joinM (heldL D.H who s) m⟩] } s = askd D s ++ [who] := by
        unfold askd
        show (restL D.H (D.W ++ [_]) s).map LkE.who = _
        unfold restL
        rw [List.filter_append, List.map_append]
        refine congrArg _ ?_
        simp [h0]
      have hnd := askd_nodup hi s
      rw [hask] at hnd
      rw [if_pos ⟨rfl, h0⟩]
      refine ⟨⟨fun _ => true, [], (fun b h => by cases h), ?_⟩, hnd, (fun x hx _ => by rw [hask]; exact hx), askd_back hi, fun x hx => by cases hx⟩
      rw [hask]; exact List.filter_eq_self.2 fun _ _ => rfl
    · have hask : askd { D with W := D.W ++ [⟨s, who, joinM (heldL D.H who s) m⟩] } s = askd D s := by
        unfold askd
        show (restL D.H (D.W ++ [_]) s).map LkE.who = _
        unfold restL
        rw [List.filter_append, List.map_append]
        simp [h0]
      rw [if_neg (fun h => h0 h.2)]
      refine ⟨⟨fun _ => true, [], (fun b h => by cases h), ?_⟩, askd_nodup h s, (fun x hx _ => by rw [hask]; exact hx), askd_back hi, fun x hx => by cases hx⟩
      rw [hask]; exact List.filter_eq_self.2 fun _ _ => rfl
/-! ### as the law looks at it -/
def stillB (D : LkS) (x : Int) : Bool := (wishL D.W x).isSome
theorem pair_of {who : Int} {p : Int → Bool} (hp : ∀ b, p b = false → b = who) {A' : List Int} : ∀ {A T : List Int}, A.Nodup → A.filter p = T ++ A' → A.Pairwise fun a b => a ∈ A' → b ∉ A' → b = who
  | [], _, _, _ => List.Pairwise.nil
  | x :: A, T, hn, h => by
    obtain ⟨hx, hn2⟩ := List.nodup_cons.1 hn
    rw [List.filter_cons] at h
    by_cases hpx : p x = true
    · rw [if_pos hpx] at h
      cases T with
      | nil =>
        rw [List.nil_append] at h
        refine List.pairwise_iff_getElem.2 fun i j _ hj _ _ hb2 => ?_
        have hb := List.getElem_mem hj
        generalize (x :: A)[j] = b at hb hb2 ⊢
        refine hp b ?_
        cases hpb : p b with
        | false => rfl
        | true =>
          exfalso
          apply hb2
          rw [← h]
          rcases List.mem_cons.1 hb with rfl | hb
          · exact List.mem_cons_self
          · exact List.mem_cons_of_mem _ (List.mem_filter.2 ⟨hb, hpb⟩)
      | cons t T =>
        rw [List.cons_append] at h
        obtain ⟨rfl, h2⟩ := List.cons.inj h
        refine List.pairwise_cons.2 ⟨fun b _ ha => ?_, pair_of hp hn2 h2⟩
        exfalso
        have : x ∈ A.filter p := by rw [h2]; exact List.mem_append.2 (.inr ha)
        exact hx (List.mem_filter.1 this).1
    · rw [if_neg hpx] at h
      refine List.pairwise_cons.2 ⟨fun b _ ha => ?_, pair_of hp hn2 h⟩
      exfalso
      have : x ∈ A.filter p := by rw [h]; exact List.mem_append.2 (.inr ha)
      exact hx (List.mem_filter.1 this).1
theorem OrdStep.mem {who : Int} {s : Spot} {A wk : List Int} {D' : LkS} (h : OrdStep who s A wk D') {x : Int} (hx : x ∈ A) : stillB D' x = true ↔ x ∈ askd D' s := by
  unfold stillB
  rw [Option.isSome_iff_ne_none]
  exact ⟨h.still x hx, h.back x⟩
/-- Who waits on, in order. -/
theorem OrdStep.left {who : Int} {s : Spot} {A wk : List Int} {D' : LkS} (h : OrdStep who s A wk D') : A.filter (stillB D') = askd D' s := by
  obtain ⟨p, T, hp, hc⟩ := h.cut
  have hnd : (A.filter p).Nodup := h.nd.filter _
  rw [hc] at hnd
  have hsub : ∀ x ∈ askd D' s, x ∈ A ∧ p x = true := fun x hx => by
    have : x ∈ A.filter p := by rw [hc]; exact List.mem_append.2 (.inr hx)
    exact List.mem_filter.1 this
  have h1 : A.filter (stillB D') = (A.filter p).filter (stillB D') := by
    rw [List.filter_filter]
    refine List.filter_congr fun x hx => ?_
    cases hb : stillB D' x with
    | false => rfl
    | true => rw [(hsub x ((h.mem hx).1 hb)).2]; rfl
  rw [h1, hc, List.filter_append]
  have h2 : T.filter (stillB D') = [] := List.filter_eq_nil_iff.2 fun x hx hb => by
    have hxA : x ∈ A := by
      have : x ∈ A.filter p := by rw [hc]; exact List.mem_append.2 (.inl hx)
      exact (List.mem_filter.1 this).1
    have := (h.mem hxA).1 hb
    exact (List.nodup_append.1 hnd).2.2 x hx x this rfl
  have h3 : (askd D' s).filter (stillB D') = askd D' s := List.filter_eq_self.2 fun x hx => (h.mem (hsub x hx).1).2 hx
  rw [h2, h3, List.nil_append]
/-- Nobody is passed. -/
theorem OrdStep.passed {who : Int} {s : Spot} {A wk : List Int} {D' : LkS} (h : OrdStep who s A wk D') {k : Nat} {x : Int} (hk : A[k]? = some x) (hx : stillB D' x = false) (hl : (A.take k).filter (stillB D') ≠ []) : x = who := by
  obtain ⟨p, T, hp, hc⟩ := h.cut
  have hpw := pair_of hp h.nd hc
  obtain ⟨a, ha⟩ := List.exists_mem_of_ne_nil _ hl
  obtain ⟨ha1, ha2⟩ := List.mem_filter.1 ha
  obtain ⟨j, hj⟩ := List.mem_iff_getElem?.1 ha1
  have hjk : j < k := by
    have := (List.getElem?_eq_some_iff.1 hj).1
    rw [List.length_take] at this
    omega
  rw [List.getElem?_take_of_lt hjk] at hj
  have hj' := List.getElem?_eq_some_iff.1 hj
  have hk' := List.getElem?_eq_some_iff.1 hk
  obtain ⟨hj1, hj2⟩ := hj'
  obtain ⟨hk1, hk2⟩ := hk'
  have := List.pairwise_iff_getElem.1 hpw j k hj1 hk1 hjk
  rw [hj2, hk2] at this
  exact this ((h.mem (List.mem_iff_getElem?.2 ⟨j, hj⟩)).1 ha2) fun hxm => by
    rw [(h.mem (List.mem_iff_getElem?.2 ⟨k, hk⟩)).2 hxm] at hx
    cases hx
end Go.Proofs.YtokeciekncincabGreat
