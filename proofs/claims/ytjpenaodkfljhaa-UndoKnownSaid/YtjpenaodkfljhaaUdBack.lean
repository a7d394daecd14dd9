/-
  The log of undoing in plain lists: the last entry of a number; what is left behind it.
  The log of undoing: walk of Back.
-/
import Derived.Test.YtjpenaodkfljhaaUdNote
namespace Go.Proofs.Ytjpenaodkfljhaa
open Go Go.RowKit

/-- The place of who's last entry, of the first n; -1: it has none. -/
def lastI (L : List (Int × Ent)) (who : Int) : Nat → Int
  | 0 => -1
  | n + 1 => match L[n]? with
    | some p => if p.1 == who then (n : Int) else lastI L who n
    | none => lastI L who n
def backL (L : List (Int × Ent)) (who : Int) : List (Int × Ent) := if lastI L who L.length < 0 then L else L.eraseIdx (lastI L who L.length).toNat
theorem lastI_succ {L : List (Int × Ent)} {who : Int} {n : Nat} {p : Int × Ent} (h : L[n]? = some p) : lastI L who (n + 1) = if p.1 == who then (n : Int) else lastI L who n := by simp only [lastI, h]
theorem ofL_append (A B : List (Int × Ent)) (x : Int) : ofL (A ++ B) x = ofL A x ++ ofL B x := by simp [ofL]
theorem ofL_cons (p : Int × Ent) (B : List (Int × Ent)) (x : Int) : ofL (p :: B) x = if p.1 = x then p.2 :: ofL B x else ofL B x := by
  unfold ofL
  by_cases h : p.1 = x
  · rw [if_pos h, List.filter_cons_of_pos (by simpa using h)]; rfl
  · rw [if_neg h, List.filter_cons_of_neg (by simpa using h)]
theorem ofL_none {B : List (Int × Ent)} {x : Int} (h : ∀ p ∈ B, p.1 ≠ x) : ofL B x = [] := by
  unfold ofL
  rw [List.filter_eq_nil_iff.2 fun p hp => by simpa using h p hp]
  rfl
theorem last_spec (L : List (Int × Ent)) (who : Int) : ∀ n, n ≤ L.length → (lastI L who n = -1 ∧ ∀ p ∈ L.take n, p.1 ≠ who) ∨ ∃ A e B, L.take n = A ++ (who, e) :: B ∧ (∀ p ∈ B, p.1 ≠ who) ∧ lastI L who n = (A.length : Nat) := by
  intro n
  induction n with
  | zero => intro _; exact .inl ⟨rfl, fun p hp => by simp at hp⟩
  | succ n ih =>
    intro hn
    have hg := List.getElem?_eq_getElem (show n < L.length by omega)
    have hts := List.take_succ_eq_append_getElem (show n < L.length by omega)
    generalize L[n] = p at hg hts
    rw [hts, lastI_succ hg]
    cases hp : (p.1 == who) with
    | true =>
      rw [beq_iff_eq] at hp
      refine .inr ⟨L.take n, p.2, [], by rw [← hp], (fun q hq => by cases hq), ?_⟩
      simp; omega
    | false =>
      rw [beq_eq_false_iff_ne] at hp
      rw [if_neg (by simp)]
      rcases ih (by omega) with ⟨h1, h2⟩ | ⟨A, e, B, h1, h2, h3⟩
      · refine .inl ⟨h1, fun q hq => ?_⟩
        rcases List.mem_append.1 hq with hq | hq
        · exact h2 q hq
        · simp at hq; subst hq; exact hp
      · refine .inr ⟨A, e, B ++ [p], by rw [h1]; simp, fun q hq => ?_, h3⟩
        rcases List.mem_append.1 hq with hq | hq
        · exact h2 q hq
        · simp at hq; subst hq; exact hp
theorem back_cases (L : List (Int × Ent)) (who : Int) : (ofL L who = [] ∧ lastI L who L.length = -1 ∧ backL L who = L) ∨ ∃ A e B, L = A ++ (who, e) :: B ∧ (∀ p ∈ B, p.1 ≠ who) ∧ lastI L who L.length = (A.length : Nat) ∧ backL L who = A ++ B ∧ ofL L who = ofL A who ++ [e] := by
  rcases last_spec L who L.length (Nat.le_refl _) with ⟨h1, h2⟩ | ⟨A, e, B, h1, h2, h3⟩
  · rw [List.take_length] at h2
    refine .inl ⟨ofL_none h2, h1, ?_⟩
    unfold backL
    rw [if_pos (by omega)]
  · rw [List.take_length] at h1
    refine .inr ⟨A, e, B, h1, h2, h3, ?_, ?_⟩
    · unfold backL
      rw [if_neg (by omega), h3, Int.toNat_natCast]
      rw [h1, List.eraseIdx_append_of_length_le (Nat.le_refl _)]
      simp
    · rw [h1, ofL_append, ofL_cons, if_pos rfl, ofL_none h2]
theorem back_some {L : List (Int × Ent)} {who : Int} {ds : List Ent} {x : Ent} (h : ofL L who = ds ++ [x]) : (∀ y, ofL (backL L who) y = if y = who then ds else ofL L y) ∧ (backL L who).length + 1 = L.length := by
  rcases back_cases L who with ⟨h1, _⟩ | ⟨A, e, B, h1, h2, h3, h4, h5⟩
  · rw [h1] at h; simp at h
  · have ha : ofL A who = ds := by
      rw [h5] at h
      exact (List.append_inj_left' h rfl)
    refine ⟨fun y => ?_, by rw [h4, h1]; simp; omega⟩
    rw [h4]
    by_cases e2 : y = who
    · subst e2
      rw [if_pos rfl, ofL_append, ofL_none h2, List.append_nil, ha]
    · rw [if_neg e2, h1, ofL_append, ofL_append, ofL_cons, if_neg (fun e => e2 e.symm)]
theorem back_same {L : List (Int × Ent)} {who : Int} (h : ofL L who = []) : backL L who = L := by
  rcases back_cases L who with ⟨_, _, h3⟩ | ⟨A, e, B, h1, h2, h3, h4, h5⟩
  · exact h3
  · rw [h5] at h; simp at h
def forgetL (L : List (Int × Ent)) (who : Int) : List (Int × Ent) := L.filter fun p => !(p.1 == who)
theorem forget_of (L : List (Int × Ent)) (who y : Int) : ofL (forgetL L who) y = if y = who then [] else ofL L y := by
  unfold ofL forgetL
  rw [List.filter_filter]
  by_cases e : y = who
  · subst e
    rw [if_pos rfl, List.filter_eq_nil_iff.2 fun p _ => by simp]
    rfl
  · rw [if_neg e]
    congr 1
    refine List.filter_congr fun p _ => ?_
    by_cases h : p.1 = y
    · simp [h, e]
    · simp [h]
theorem forget_len (L : List (Int × Ent)) (who : Int) : (forgetL L who).length + (ofL L who).length = L.length := by
  unfold ofL forgetL
  rw [List.length_map]
  induction L with
  | nil => rfl
  | cons p L ih =>
    by_cases h : p.1 = who
    · rw [List.filter_cons_of_neg (by simp [h]), List.filter_cons_of_pos (by simp [h])]
      simp only [List.length_cons]; omega
    · rw [List.filter_cons_of_pos (by simp [h]), List.filter_cons_of_neg (by simp [h])]
      simp only [List.length_cons]; omega
theorem own_cut {w : World} {base : Nat} {e : TypeId} {size n k c : Nat} {a : Option Addr} {xs : List Value} (h : w.ownsRow base e size (.slice a n c) n xs) (hk : k ≤ n) : w.ownsRow base e size (.slice a k c) k (xs.take (k * size)) := by
  refine ⟨by rw [List.length_take, h.1, Nat.min_eq_left (Nat.mul_le_mul_right _ hk)], ?_⟩
  rcases h.2 with ⟨h1, h2⟩ | ⟨g, cap, cur, h1, h2, h3, h4, h5, h6, h7⟩
  · cases h1
    exact .inl ⟨by rw [show k = 0 by omega], by omega⟩
  · cases h1
    refine .inr ⟨g, c, cur, rfl, h2, h3, by omega, h5, h6, ?_⟩
    rw [← h7, List.take_take, Nat.min_eq_left (Nat.mul_le_mul_right _ hk)]
end Go.Proofs.Ytjpenaodkfljhaa
namespace Go.Proofs.Ytjpenaodkfljhaa
open Go Go.RowKit Go.Maps

def UBackRet (lb : Nat) (most : Int) (L : List (Int × Ent)) (S : Nat → Prop) (rb : Nat) (M : List MTab) (Sr : Nat → Prop) (who : Int) (w : World) (e : Ending) (w' : World) : Prop :=
  (ofL L who = [] ∧ e = .returned (.bool false) ∧ Fr w w' Nil) ∨
  (∃ ds x, ofL L who = ds ++ [x] ∧ e = .returned (.bool true) ∧ LogAt w' lb most (backL L who) S ∧ (∃ Sr', Rws w' rb (undoE M x) Sr' ∧ ∀ k, Sr' k → Sr k ∨ w.heap.size ≤ k) ∧ Fr w w' (fun k => S k ∨ Sr k))
theorem snoc_of {α : Type} {l : List α} (h : l ≠ []) : ∃ ds x, l = ds ++ [x] := ⟨l.dropLast, l.getLast h, (List.dropLast_concat_getLast h).symm⟩
theorem gent_cell {w : World} {b n c : Nat} {es : List GEnt} {g : GEnt} (h : w.ownsRow 0 138 3 (.slice (some ⟨b, 0, none⟩) n c) n ((es ++ [g]).flatMap GEnt.vals)) : w.cell? ⟨b, es.length * 3 + 2, none⟩ = some g.fv := by
  have h1 := h.cells (g := b) rfl (es.length * 3 + 2) g.fv (by
    have := flat_get (f := GEnt.vals) (n := 3) (fun _ => rfl) (l := es ++ [g]) (i := es.length) (t := g) (by simp) 2 (by decide)
    rw [this]; rfl)
  rwa [Addr.add_lit, Nat.zero_add] at h1
theorem delM_put (M : List (Int × GSl)) (who : Int) (g : GSl) : (delM M who ++ [(who, g)]).filter (fun p => !decide (p.1 = who)) = delM M who := by
  rw [List.filter_append, List.filter_cons_of_neg (by simp), List.filter_nil, List.append_nil]
  unfold delM
  rw [List.filter_filter]
  simp
/-- The log behind a taking back: one entry less. -/
theorem back_done {w2 w3 w4 : World} {lb mb a c m : Nat} {most : Int} {L : List (Int × Ent)} {M : List (Int × GSl)} {S : Nat → Prop} {who : Int} {es : List GEnt} {g : GEnt} (h : LogG w2 lb mb most (L.length : Nat) M S) (hL : ∀ x, (ofM M x).es.map GEnt.mod = ofL L x)
    (hes : (ofM M who).es = es ++ [g]) (hv : (ofM M who).v = .slice (some ⟨a, 0, none⟩) (es.length + 1) c) (hm : es.length = m) (hm3 : m ≠ 0 → MapAt Try.prog 2 ikey GSl.v w3 mb (delM M who ++ [(who, ⟨.slice (some ⟨a, 0, none⟩) m c, es⟩)])) (hm0 : m = 0 → MapAt Try.prog 2 ikey GSl.v w3 mb (delM M who)) (hf3 : Fr w2 w3 (fun j => j = lb ∨ j = mb))
    (hr3 : Bk w3 lb 109 [.int .i64 most, .int .i64 ((L.length : Int) - 1), .map (some mb)]) (h4 : w4 = w3) : LogAt w4 lb most (backL L who) S := by
  subst h4
  obtain ⟨hnb, hts, hto⟩ := h.turns (who := who)
  have hat0 := (h.at who).1
  have hof : ofL L who = es.map GEnt.mod ++ [g.mod] := by rw [← hL, hes]; simp
  obtain ⟨hb1, hb2⟩ := back_some hof
  have hf : Fr w2 w4 (Turns lb mb M who) := hf3.mono fun k _ hk => hk.elim .inl fun h => .inr (.inl h)
  have hlen : ((L.length : Int) - 1) = ((backL L who).length : Nat) := by omega
  have hrow : w2.ownsRow 0 138 3 (.slice (some ⟨a, 0, none⟩) (es.length + 1) c) (es.length + 1) ((es ++ [g]).flatMap GEnt.vals) := by
    have := hat0.row
    rw [hes, hv, List.length_append] at this
    exact this
  have hnot : ∀ k, (ofM M who).v.ownBlock = some k → ¬ (k = lb ∨ k = mb) := fun k hk e => by
    rcases e with rfl | rfl
    · exact h.rowL who hk
    · exact h.rowM who hk
  rw [hlen] at hr3
  by_cases h0 : m = 0
  · have he : es = [] := List.eq_nil_of_length_eq_zero (hm.trans h0)
    refine ⟨mb, delM M who, h.drop who hr3 (hm0 h0) hf, fun x => ?_⟩
    rw [ofM_del, hb1]
    by_cases e : x = who
    · rw [if_pos e, if_pos e, he, List.map_nil]
    · rw [if_neg e, if_neg e]; exact hL x
  · have hrow3 : w4.ownsRow 0 138 3 (.slice (some ⟨a, 0, none⟩) m c) es.length (es.flatMap GEnt.vals) := by
      have h1 := own_cut (k := es.length) hrow (by omega)
      have h2 := hf3.own h1 fun k hk => hnot k (by rw [hv]; exact hk)
      rw [List.flatMap_append, List.take_append_of_le_length (by rw [flat_len (f := GEnt.vals) (n := 3) (fun _ => rfl)]; omega), List.take_of_length_le (by rw [flat_len (f := GEnt.vals) (n := 3) (fun _ => rfl)]; omega)] at h2
      rw [← hm]
      exact h2
    refine ⟨mb, delM M who ++ [(who, ⟨.slice (some ⟨a, 0, none⟩) m c, es⟩)], h.set (fun _ h => h) (fun k hk => Nat.lt_of_lt_of_le (h.lt k hk) hf3.size) who ⟨.slice (some ⟨a, 0, none⟩) m c, es⟩ hr3 (hm3 h0) hf hrow3 (fun e he => (hat0.ents e (by rw [hes]; simp [he])).frT hf hnb) (.inl (by rw [hv]; rfl)) (fun e => h0 (by rw [← hm, show es = [] from e]; rfl)) (fun e he k hk => hat0.inE e (by rw [hes]; simp [he]) k hk) (fun k hk => hat0.inV k (by rw [hv]; exact hk)), fun x => ?_⟩
    rw [ofM_put, hb1]
    by_cases e : x = who
    · rw [if_pos e, if_pos e]
    · rw [if_neg e, if_neg e]; exact hL x

set_option maxRecDepth 100000 in
set_option maxHeartbeats 4000000 in
theorem uback_any {lb rb : Nat} {most : Int} {L : List (Int × Ent)} {M : List MTab} {S Sr : Nat → Prop} (who : Int) (w : World) (h : LogAt w lb most L S) (hr : Rws w rb M Sr) (hd : ∀ k, S k → ¬ Sr k) (hg : Good M) (hw : (Lit.int .i64 who).wf = true) (hl : L.length ≤ 100000) :
    Calls Try.prog 36 #[lptr lb, .int .i64 who, rptr rb] w (UBackRet lb most L S rb M Sr who w) := by
  have HL := Lib.hid h
  have HR := Lib.hid hr
  have HG := Lib.hid hg
  have HD := Lib.hid hd
  clear h hr hg hd
  by_cases h0 : ofL L who = []
  · have HE := Lib.hid h0
    go_enter Try.func36, Try.ntmps36
    go_wp2_with fail
    refine (ulen_any who _ HL.out hw).mono ?_
    rintro e w1 ⟨rfl, rfl⟩
    rw [h0]
    clear h0
    go_wp2_with fail
    go_ret
    exact .inl ⟨HE.out, rfl, Fr.refl _ _⟩
  · obtain ⟨ds, x, hax⟩ := snoc_of h0
    obtain ⟨mb, M0, hG, hLe⟩ := HL.out
    have hat := (hG.at who).1
    have hlo := hLe who
    rw [hax] at hlo
    obtain ⟨es, g, hes⟩ := snoc_of (l := (ofM M0 who).es) (fun e => by rw [e] at hlo; simp at hlo)
    have hgx : g.mod = x := by
      rw [hes, List.map_append] at hlo
      simpa using (List.append_inj_right' hlo rfl)
    have hlen : (ofL L who).length = es.length + 1 := by rw [← hLe, hes]; simp
    have hlim : es.length + 1 ≤ 100000 := by have := ofL_len L who; omega
    have hrow := hat.row
    rw [hes, List.length_append] at hrow
    obtain ⟨va, vc, hv, hvn⟩ : ∃ a c, (ofM M0 who).v = .slice (some ⟨a, 0, none⟩) (es.length + 1) c ∧ es.length + 1 ≤ c := by
      rcases hrow.2 with ⟨_, h2⟩ | ⟨b, c, cur, h1, _, _, h4, _⟩
      · simp at h2
      · exact ⟨b, c, by simpa using h1, by simpa using h4⟩
    have hge := hat.ents g (by rw [hes]; simp)
    have qL := look_run hG hw
    rw [hv] at qL hrow
    have q27 := gent_cell (n := es.length + 1) hrow
    have q2 := hG.root.cell 2
    have HGX := Lib.hid hgx
    have HGG := Lib.hid hG
    have HLE := Lib.hid hLe
    have HES := Lib.hid hes
    have HV := Lib.hid hv
    have HAX := Lib.hid hax
    have HGE := Lib.hid hge
    have HLN := Lib.hid hlen
    have hl1 : 1 ≤ L.length := by have := ofL_len L who; omega
    obtain ⟨m, hm⟩ : ∃ m, es.length = m := ⟨_, rfl⟩
    have HM := Lib.hid hm
    rw [hm] at q27 qL hlim hvn
    clear h0 hax hG hLe hat hlo hes hgx hlen hrow hv hge hm
    have hi0 : (0 : Int) ≤ (m : Int) := by omega
    rcases hq : g.was with _ | xs
    all_goals
      have HQ := Lib.hid hq
      have HFV : Hid (g.fv = match g.was with | none => .func (.func 105) #[] #[.pointer (some ⟨g.tb, 0, none⟩), .pointer (some ⟨g.kb, 0, none⟩)] | some _ => .func (.func 106) #[] #[.pointer (some ⟨g.tb, 0, none⟩), .pointer (some ⟨g.kb, 0, none⟩), .pointer (some ⟨g.cb, 0, none⟩)]) := rfl
      rw [HFV.out, hq] at q27
      clear hq
      go_enter Try.func36, Try.ntmps36
      go_wp2_with fail
      refine (ulen_any who _ HL.out hw).mono ?_
      rintro e w1 ⟨rfl, rfl⟩
      rw [HLN.out, HM.out]
      go_wp2_with fail
      first
        | refine (back1_any g _ HR.out HG.out HGE.out HQ.out).mono ?_
        | refine (back2_any g xs _ HR.out HG.out HGE.out HQ.out).mono ?_
      rintro e w2 ⟨rfl, Sr', hr2, hs2, hf2⟩
      have hG2 : LogG w2 lb mb most (L.length : Nat) M0 S := HGG.out.fr hf2 HD.out
      have HG2 := Lib.hid hG2
      have q2 := hG2.root.cell 2
      have qL := look_run hG2 hw
      rw [HV.out, HM.out] at qL
      have k2 := KeptN.cell q2
      have kl : ∀ w', KeptN w2 w' → (Instr.lookup 107 (.map (some mb)) (.int .i64 who) false).run Try.prog w' = .ok (.slice (some ⟨va, 0, none⟩) (m + 1) vc) w' := fun w' hf => by
        rw [look_run (hG2.fr0 hf) hw, HV.out, HM.out]
      have HR2 : Hid (∃ Sr', Rws w2 rb (undoE M x) Sr' ∧ ∀ k, Sr' k → Sr k ∨ w.heap.size ≤ k) := ⟨Sr', by rw [← HGX.out]; exact hr2, hs2⟩
      have HF2 := Lib.hid hf2
      have HMl : Hid (M0.length < maxLen) := by
        have : M0.length < maxLen := by
          have := hG2.few HLE.out
          unfold maxLen; omega
        exact this
      have HKY := Lib.hid (keyW hw)
      clear hG2 hr2 hs2 hf2 q27
      go_wp2_with fail
      refine wp_region_sink 14 (KeptN w2) (by kernel_rfl) ?_
      have hSa : KeptN w2 w2.drew := KeptN.start _
      refine wpAnyS_take (i := 0) (v := ?_) rfl (by kernel_rfl) (fun _ _ _ h => h) (by rfl) hSa ?_ ?_
      rotate_left
      · intro w' hS'
        (try dsimp only at hS')
        go_simp <;> with_reducible rfl
      try simp only [Act.put, List.setIfInBounds_toArray, List.set_cons_zero, List.set_cons_succ]
      refine wpAnyS_take (i := 1) (v := ?_) rfl (by kernel_rfl) (fun _ _ _ h => h) (by rfl) hSa ?_ ?_
      rotate_left
      · intro w' hS'
        (try dsimp only at hS')
        go_simp <;> with_reducible rfl
      try simp only [Act.put, List.setIfInBounds_toArray, List.set_cons_zero, List.set_cons_succ]
      refine wpAnyS_take (i := 2) (v := ?_) rfl (by kernel_rfl) (fun _ _ _ h => h) (by rfl) hSa ?_ ?_
      rotate_left
      · intro w' hS'
        (try dsimp only at hS')
        go_simp <;> with_reducible rfl
      try simp only [Act.put, List.setIfInBounds_toArray, List.set_cons_zero, List.set_cons_succ]
      refine wpAnyS_take (i := 3) (v := ?_) rfl (by kernel_rfl) (fun _ _ _ h => h) (by rfl) hSa ?_ ?_
      rotate_left
      · intro w' hS'
        have ck2 := k2 _ hS'
        go_simp <;> with_reducible rfl
      try simp only [Act.put, List.setIfInBounds_toArray, List.set_cons_zero, List.set_cons_succ]
      refine wpAnyS_take (i := 4) (v := ?_) rfl (by kernel_rfl) (fun _ _ _ h => h) (by rfl) hSa ?_ ?_
      rotate_left
      · intro w' hS'
        (try dsimp only at hS')
        go_simp <;> with_reducible rfl
      try simp only [Act.put, List.setIfInBounds_toArray, List.set_cons_zero, List.set_cons_succ]
      refine wpAnyS_take (i := 5) (v := ?_) rfl (by kernel_rfl) (fun _ _ _ h => h) (by rfl) hSa ?_ ?_
      rotate_left
      · intro w' hS'
        (try dsimp only at hS')
        go_simp <;> with_reducible rfl
      try simp only [Act.put, List.setIfInBounds_toArray, List.set_cons_zero, List.set_cons_succ]
      refine wpAnyS_take (i := 6) (v := ?_) rfl (by kernel_rfl) (fun _ _ _ h => h) (by rfl) hSa ?_ ?_
      rotate_left
      · intro w' hS'
        (try dsimp only at hS')
        go_simp <;> with_reducible rfl
      try simp only [Act.put, List.setIfInBounds_toArray, List.set_cons_zero, List.set_cons_succ]
      refine wpAnyS_take (i := 7) (v := ?_) rfl (by kernel_rfl) (fun _ _ _ h => h) (by rfl) hSa ?_ ?_
      rotate_left
      · intro w' hS'
        (try dsimp only at hS')
        go_simp <;> with_reducible rfl
      try simp only [Act.put, List.setIfInBounds_toArray, List.set_cons_zero, List.set_cons_succ]
      refine wpAnyS_take (i := 8) (v := ?_) rfl (by kernel_rfl) (fun _ _ _ h => h) (by rfl) hSa ?_ ?_
      rotate_left
      · intro w' hS'
        have ck2 := k2 _ hS'
        go_simp <;> with_reducible rfl
      try simp only [Act.put, List.setIfInBounds_toArray, List.set_cons_zero, List.set_cons_succ]
      refine wpAnyS_take (i := 9) (v := ?_) rfl (by kernel_rfl) (fun _ _ _ h => h) (by rfl) hSa ?_ ?_
      rotate_left
      · intro w' hS'
        (try dsimp only at hS')
        go_simp <;> with_reducible rfl
      try simp only [Act.put, List.setIfInBounds_toArray, List.set_cons_zero, List.set_cons_succ]
      refine wpAnyS_take (i := 10) (v := ?_) rfl (by kernel_rfl) (fun _ _ _ h => h) (by rfl) hSa ?_ ?_
      rotate_left
      · intro w' hS'
        have ckl := kl _ hS'
        go_simp <;> with_reducible rfl
      try simp only [Act.put, List.setIfInBounds_toArray, List.set_cons_zero, List.set_cons_succ]
      have hwm : IntKind.i64.wrap (m : Int) = m := by rw [IntKind.wrap_i64]; omega
      have hmv : (m : Int) ≤ (vc : Int) := by omega
      refine wpAnyS_take (i := 11) (v := ?_) rfl (by kernel_rfl) (fun _ _ _ h => h) (by rfl) hSa ?_ ?_
      rotate_left
      · intro w' hS'
        (try dsimp only at hS')
        go_simp <;> with_reducible rfl
      try simp only [Act.put, List.setIfInBounds_toArray, List.set_cons_zero, List.set_cons_succ]
      refine wpAnyS_take (i := 12) (v := ?_) rfl (by kernel_rfl) (fun _ _ _ h => h) (by rfl) hSa ?_ ?_
      rotate_left
      · intro w' hS'
        (try dsimp only at hS')
        go_simp <;> with_reducible rfl
      try simp only [Act.put, List.setIfInBounds_toArray, List.set_cons_zero, List.set_cons_succ]
      refine wpAnyS_take (i := 13) (v := ?_) rfl (by kernel_rfl) (fun _ _ _ h => h) (by rfl) hSa ?_ ?_
      rotate_left
      · intro w' hS'
        (try dsimp only at hS')
        go_simp <;> with_reducible rfl
      try simp only [Act.put, List.setIfInBounds_toArray, List.set_cons_zero, List.set_cons_succ]
      clear hwm hmv
      refine wpAnyS_last (i := 14) rfl (by kernel_rfl) (by decide) (by kernel_rfl) (by rfl) fun K hK => ?_
      refine wp_map_set _ _ _ _ _ (by rfl) 2 134 Try.keyI64 Try.underlying107 intKey mb M0 HMl.out (by rfl) (HG2.out.map.fr0 hSa) _ who (by rfl) HKY.out (⟨.slice (some ⟨va, 0, none⟩) m vc, es⟩ : GSl) (by rfl) ?_
      intro w3 hm3 hf3
      refine hK.out _ _ ?_
      clear hK K
      have hb3 : Bk w3 lb 109 [.int .i64 most, .int .i64 (L.length : Nat), .map (some mb)] := (HG2.out.root.fr hSa fun h => h).fr hf3 (fun e => by
        subst e
        obtain ⟨D, ⟨es, ck, hm, _⟩, _⟩ := HG2.out.map
        have := HG2.out.root
        unfold Bk at this
        rw [this] at hm; cases hm)
      have hf23 : Fr w2 w3 (fun j => j = lb ∨ j = mb) := (Fr.of_nil hSa).transS (hf3.mono fun _ _ h => .inr h)
      have HM3 := Lib.hid hm3
      have HB3 := Lib.hid hb3
      have HF3 := Lib.hid hf23
      have q1 := hb3.cell 1
      have y1 := hb3.free 1
      clear hSa k2 kl q2 qL hm3 hf3 hb3 hf23
      have hb4 := HB3.out.set 1 (.int .i64 ((L.length : Int) - 1))
      have q5 := hb4.cell 2
      have HB4 := Lib.hid hb4
      have HF4 : Hid (Fr w2 (w3.setCell ⟨lb, 1, none⟩ (.int .i64 ((L.length : Int) - 1))) (fun j => j = lb ∨ j = mb)) := HF3.out.setCell (p := ⟨lb, 1, none⟩) (fun _ => .inl rfl) _
      have HM4 : Hid (MapAt Try.prog 2 ikey GSl.v (w3.setCell ⟨lb, 1, none⟩ (.int .i64 ((L.length : Int) - 1))) mb (delM M0 who ++ [(who, ⟨.slice (some ⟨va, 0, none⟩) m vc, es⟩)])) := HM3.out.fr (Fr.store w3 lb 1 _) (fun e => by
        subst e
        obtain ⟨D, ⟨es, ck, hm, _⟩, _⟩ := HM3.out
        have := HB3.out
        unfold Bk at this
        rw [this] at hm; cases hm)
      have hll : (1 : Int) ≤ (L.length : Int) := by omega
      clear hb4
      have hSin : ∀ k, (k = lb ∨ k = mb) → S k := fun k e => by (rcases e with rfl | rfl; exact HGG.out.inL; exact HGG.out.inM)
      by_cases hm0 : m = 0
      · subst hm0
        go_wp2_with (at_delete; refine wpList_map_del _ rfl _ _ 107 2 rfl 134 Try.keyI64 Try.underlying107 intKey mb _ rfl HM4.out _ who rfl HKY.out ?_; intro w5 hm5 hf5)
        have hb5 := HB4.out.fr hf5 (fun e => by
          subst e
          obtain ⟨D, ⟨es, ck, hm, _⟩, _⟩ := HM4.out
          have := HB4.out
          unfold Bk at this
          rw [this] at hm; cases hm)
        have HF5 : Hid (Fr w2 w5 (fun j => j = lb ∨ j = mb)) := HF4.out.transS (hf5.mono fun _ _ h => .inr h)
        have HB5 := Lib.hid hb5
        have HM5 := Lib.hid hm5
        clear hm5 hf5 hb5
        go_wp2_with fail
        go_ret
        refine .inr ⟨ds, x, HAX.out, rfl, back_done HG2.out HLE.out HES.out HV.out HM.out (fun h => absurd rfl h) (fun _ => by have := HM5.out; rw [delM_put] at this; exact this) HF5.out HB5.out rfl, HR2.out.imp fun Sr' h => ⟨h.1.fr HF5.out fun k hk e => ?_, h.2⟩, (HF2.out.mono fun _ _ h => .inr h).trans HF5.out fun k _ e => .inl (hSin k e)⟩
        have h1 := HD.out k (hSin k e)
        have h2 := HG2.out.lt k (hSin k e)
        have h3 := HGG.out.lt k (hSin k e)
        rcases h.2 k hk with h4 | h4
        · exact h1 h4
        · omega
      · have hm1 : ((m : Int) + 1 == 1) = false := by rw [beq_eq_false_iff_ne]; omega
        go_wp2_with fail
        go_ret
        refine .inr ⟨ds, x, HAX.out, rfl, back_done HG2.out HLE.out HES.out HV.out HM.out (fun _ => HM4.out) (fun h => absurd h hm0) HF4.out HB4.out rfl, HR2.out.imp fun Sr' h => ⟨h.1.fr HF4.out fun k hk e => ?_, h.2⟩, (HF2.out.mono fun _ _ h => .inr h).trans HF4.out fun k _ e => .inl (hSin k e)⟩
        have h1 := HD.out k (hSin k e)
        have h2 := HG2.out.lt k (hSin k e)
        have h3 := HGG.out.lt k (hSin k e)
        rcases h.2 k hk with h4 | h4
        · exact h1 h4
        · omega
end Go.Proofs.Ytjpenaodkfljhaa
