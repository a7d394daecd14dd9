/-
  Walk of the law RowsPlays.
  No condition.
-/
import Derived.Test.YtljgifjokdppgaaRwPlay
import Derived.Test.YtljgifjokdppgaaRwTellsW
import Derived.Test.YtljgifjokdppgaaRfCopy
import Derived.Test.YtljgifjokdppgaaRwSameMain
import Derived.Test.YtljgifjokdppgaaRwPlaysE
namespace Go.Proofs.Ytljgifjokdppgaa
open Go Go.RowKit

theorem slPR : SlT Try.prog 57 25 1 8 := SlT.mk (z := .pointer none) Try.underlying57 (by kernel_rfl) (by rfl) (by decide) (by decide)
theorem slPQ : SlT Try.prog 58 50 1 8 := SlT.mk (z := .pointer none) Try.underlying58 (by kernel_rfl) (by rfl) (by decide) (by decide)

theorem PlayInv.call {w0 w : World} {rb qb : Nat} {M : List MTab} {S T X : Nat → Prop} {va vb : Value} {ca cb : List Value} {olds : List Old} {k : Nat} (h : PlayInv w0 w rb qb M S T X va vb ca cb olds k) (hk : k < 1000) {bb o : Nat} (c : CallD) (hc : CallAt w0 bb o c) (hl : c.cols.length ≤ 2000) :
    Calls Try.prog 21 #[rptr rb, .pointer (some ⟨qb, 0, none⟩), .agg #[.int .u8 c.kind, .int .i64 c.table, .int .i64 c.key, .int .i64 c.col, .int .i64 c.n, c.cv]] w fun e w' =>
      e = .returned (.bool true) ∧ ∃ S' T', PlayInv w0 w' rb qb (mstep M c) S' T' X va vb ca cb olds (k + 1) := by
  refine (does_any c w h.cur h.good h.few hk (hc.cols.fr h.fr fun _ _ h => h) (fun hx k hk => ?_) (by omega) hc.u8).mono fun e w' ⟨he, hu⟩ => ⟨he, h.does hu (good_step h.good h.few (by omega) c)⟩
  have := hc.cols.lt hx k hk
  exact ⟨fun hs => by have := h.s0 k (.inl hs); omega, fun hs => by have := h.s0 k (.inr hs); omega⟩
theorem one1 (b : Nat) : ∀ u ∈ [Value.pointer (some ⟨b, 0, none⟩)], u.oneCell' = true := by
  intro u hu
  rw [List.mem_singleton] at hu
  subst hu
  rfl
theorem play_eq {w0 w : World} {rb qb : Nat} {M : List MTab} {S T X : Nat → Prop} {a2 a3 : Option Addr} {c2 c3 k ro qo : Nat} {Mo : List MTab} {olds n : List Old}
    (h : PlayInv w0 w rb qb M S T X (.slice a2 (olds.length + 1) c2) (.slice a3 (olds.length + 1) c3) (olds.map Old.pr ++ [rptr ro]) (olds.map Old.pq ++ [.pointer (some ⟨qo, 0, none⟩)]) n k) :
    PlayInv w0 w rb qb M S T X (.slice a2 (olds ++ [(⟨ro, qo, Mo⟩ : Old)]).length c2) (.slice a3 (olds ++ [(⟨ro, qo, Mo⟩ : Old)]).length c3) ((olds ++ [(⟨ro, qo, Mo⟩ : Old)]).map Old.pr) ((olds ++ [(⟨ro, qo, Mo⟩ : Old)]).map Old.pq) n k := by
  rw [List.map_append, List.map_append, List.length_append]
  exact h
theorem play_cell {w : World} {e : TypeId} {a : Option Addr} {n m c i : Nat} {cs : List Value} {v : Value} (h : w.ownsRow 0 e 1 (.slice a n c) m cs) (hm : m = n) (hv : cs[i]? = some v) : ∃ b c', Value.slice a n c = .slice (some ⟨b, 0, none⟩) n c' ∧ w.cell? ⟨b, i, none⟩ = some v := by
  subst hm
  have hi := (List.getElem?_eq_some_iff.1 hv).1
  have hl := h.1
  rcases h.2 with ⟨he, hn⟩ | ⟨g, cap, cur, he, _⟩
  · omega
  · cases he
    refine ⟨g, _, rfl, ?_⟩
    rw [World.ownsRow.cellAt h i (by omega), hv]
def PlayAt (w0 w : World) (l : List CallD) (M0 : List MTab) (k rb qb : Nat) (va vb : Value) (olds : List Old) : Prop :=
  ∃ S T X, PlayInv w0 w rb qb (msteps M0 (l.take k)) S T X va vb (olds.map Old.pr) (olds.map Old.pq) olds k

set_option maxRecDepth 100000 in
set_option maxHeartbeats 1000000 in
theorem playsLaw_main (v va : Value) (cols : List Int) (l : List CallD) (w : World) (hv : IntsAt w v cols) (hl : cols.length ≤ 9223372036854775807) (ha : CallsAt w va l)
    (h1 : largeB l = false) (h8 : cols.length ≤ 100) (hok : colOk cols) :
    Calls Try.prog 6 #[v, va] w fun e w' => e = .returned (.bool true) ∧ Fr w w' Nil := by
  obtain ⟨av, cv, rfl⟩ := hv.shape
  obtain ⟨_, aa, ca, rfl, _⟩ := id ha
  have Hv := Lib.hid hv
  have HA := Lib.hid ha
  have H1 := Lib.hid h1
  have Hok := Lib.hid hok
  have hla := (largeB_small h1).1
  have g8 : decide ((100 : Int) < (cols.length : Int)) = false := by rw [decide_eq_false_iff_not]; omega
  clear hv ha h1 hok
  go_enter Try.func6, Try.ntmps6
  go_wp2_with fail
  refine (large_any _ l _ HA.out).mono ?_
  rintro e w1 ⟨he, hf⟩
  rw [H1.out] at he
  subst he
  have Hf := Lib.hid hf
  clear hf
  go_wp2_with fail
  refine (api_new _ cols _ (Hv.out.fr Hf.out fun _ _ h => h) hl).mono ?_
  rintro e w2 hr
  rcases hr with ⟨_, r, S1, rfl, hr, or', hfr⟩ | ⟨hno, _⟩
  rotate_left
  · exact absurd Hok.out hno
  have HR := Lib.hid hr
  have OR := Lib.hid or'
  have FR := Lib.hid hfr
  clear hr or' hfr
  go_wp2_with fail
  refine (rnew_any _ cols _ (Hv.out.fr (Hf.out.trans0 FR.out) fun _ _ h => h) hl).mono ?_
  rintro e w3 hr
  rcases hr with ⟨_, m, T1, rfl, hm, om, hfm⟩ | ⟨hno, _⟩
  rotate_left
  · exact absurd Hok.out hno
  have HI : Hid (PlayAt w1 w3 l (newMod cols) 0 r m (.slice none 0 0) (.slice none 0 0) []) := by
    have e1 := colsN_new Hok.out
    have e2 := flat_new cols
    rw [← e2] at hm
    have hm' : RefAt w3 m (colsN (newMod cols)) (flatM (newMod cols)) T1 := by rw [e1]; exact hm
    have hg := good_new Hok.out
    refine ⟨S1, T1, Nil, ⟨HR.out.fr0 hfm, hm', fun k h1 h2 => ?_⟩, hg.1, hg.2, (fun o ho => by cases ho), (fun j hj => hj.elim), World.ownsRow_nil _ _ _ _, World.ownsRow_nil _ _ _ _, (fun j hj => by simp [Value.ownBlock] at hj), (fun j hj => by simp [Value.ownBlock] at hj), (fun j hj => hj.elim), fun j hj => ?_, FR.out.trans0 hfm⟩
    · have := om k h2; have := HR.out.lt k h1; omega
    · rcases hj with hj | hj
      · exact OR.out j hj
      · have := om j hj; have := FR.out.size; omega
  have HA := Lib.hid (HA.out.fr Hf.out)
  clear hm om hfm HR OR FR
  go_wp2_with fail
  go_loopw [5, 7, 9, 10, 11] (fun vr vm vo vw vi wr => ∃ (k rb qb : Nat) (al bl : Option Addr) (cl dl : Nat) (olds : List Old), k ≤ l.length ∧ olds.length ≤ k ∧ vr = rptr rb ∧ vm = .pointer (some ⟨qb, 0, none⟩) ∧ vo = .slice al olds.length cl ∧ vw = .slice bl olds.length dl ∧ vi = .int .i64 k ∧ PlayAt w1 wr l (newMod cols) k rb qb (.slice al olds.length cl) (.slice bl olds.length dl) olds) (fun _ _ _ _ vi _ => l.length - (intOf vi).toNat)
  case atStart => exact ⟨0, r, m, none, none, 0, 0, [], by omega, by simp, rfl, rfl, rfl, rfl, rfl, HI.out⟩
  case round =>
    clear HI
    obtain ⟨k, rb, qb, al, bl, cl, dl, olds, hk, hol, rfl, rfl, rfl, rfl, rfl, hinv⟩ := hrel
    have HI := Lib.hid hinv
    clear hinv
    by_cases hlt : k < l.length
    · obtain ⟨ba, offa, cap2, hva, hc⟩ := HA.out.form (by omega)
      simp only [Value.slice.injEq, true_and] at hva
      obtain ⟨rfl, rfl⟩ := hva
      have hg := List.getElem?_eq_getElem hlt
      have hnx := msteps_next (M := newMod cols) hg
      generalize l[k] = c at hg hnx
      have hca0 := hc k c hg
      have HC0 := Lib.hid hca0
      have hfw : Fr w1 wr Nil := by obtain ⟨S, T, X, h⟩ := HI.out; exact h.fr
      have hca := hca0.fr hfw
      obtain ⟨ac, cc, hcv⟩ := hca.cols.shape
      have q0 := hca.kind
      have q1 := hca.table
      have q2 := hca.key
      have q3 := hca.col
      have q4 := hca.n
      have q5 := hca.cv
      rw [hcv] at q5
      obtain ⟨hu0, hu1⟩ := hca.u8
      have HM : Hid (c.cols.length ≤ 2000) := (largeB_small H1.out).2 c (List.mem_of_getElem? hg)
      have HCV := Lib.hid hcv
      have HNX := Lib.hid hnx
      have hlt2 : (k : Int) < (l.length : Int) := by omega
      have hk9 : k < 1000 := by omega
      have hk10 : k ≤ 100 := by omega
      clear hc hg hca hcv hca0 hnx hfw
      by_cases h6 : c.kind % 8 = 6
      · have h6' : (c.kind % 8 == 6) = true := by rw [beq_iff_eq]; exact h6
        clear h6
        obtain ⟨S, T, X, hP⟩ := HI.out
        have HP := Lib.hid hP
        have HB1 := Lib.hid (Bk.new wr 25 #[rptr rb])
        have HO1 := Lib.hid (one1 rb)
        have HO2 := Lib.hid (one1 qb)
        have HLA := Lib.hid (((Fr.refl wr Nil).alloc (Obj.cells #[rptr rb] 25)).own hP.la (fun _ _ h => h))
        clear hP HI
        rw [List.length_map] at HLA
        go_wp2_with (first
          | (at_builtin
             refine wpList_app _ rfl _ _ _ rfl slPR (.slice al olds.length cl) rfl HLA.out (.slice (some ⟨wr.heap.size, 0, none⟩) 1 1) rfl (SlAt.of_block HB1.out) HO1.out (by omega) ?_
             intro a2 c2 w2 ho2 hg2 hat2
             have HP2 := Lib.hid (HP.out.appA (ca' := olds.map Old.pr ++ [rptr rb]) ((Fr.refl wr Nil).alloc _) (by rw [List.length_append, List.length_map]; exact ho2) hg2 hat2)
             have HB2 := Lib.hid (Bk.new w2 50 #[.pointer (some ⟨qb, 0, none⟩)])
             have HLB := Lib.hid (((Fr.refl w2 Nil).alloc (Obj.cells #[.pointer (some ⟨qb, 0, none⟩)] 50)).own HP2.out.lb (fun _ _ h => h))
             rw [List.length_map] at HLB
             clear ho2 hg2 hat2 HP HB1 HLA)
          | (at_builtin
             refine wpList_app _ rfl _ _ _ rfl slPQ (.slice bl olds.length dl) rfl HLB.out (.slice (some ⟨w2.heap.size, 0, none⟩) 1 1) rfl (SlAt.of_block HB2.out) HO2.out (by omega) ?_
             intro a3 c3 w3 ho3 hg3 hat3
             have HP3 := Lib.hid (HP2.out.appB (cb' := olds.map Old.pq ++ [.pointer (some ⟨qb, 0, none⟩)]) ((Fr.refl w2 Nil).alloc _) (by rw [List.length_append, List.length_map]; exact ho3) hg3 hat3)
             clear ho3 hg3 hat3 HP2 HB2 HLB)
          | fail)
        refine (api_copy HP3.out.cur.rws HP3.out.good).mono ?_
        rintro e w4 ⟨rb', S4, rfl, hr4, ho4, hf4⟩
        have HR4 := Lib.hid hr4
        have HO4 := Lib.hid ho4
        have HF4 := Lib.hid hf4
        clear hr4 ho4 hf4
        go_wp2_with fail
        refine (refcopy_any _ (HP3.out.cur.ref.fr0 HF4.out) (qok_flat HP3.out.good HP3.out.few (by omega))).mono ?_
        rintro e w5 ⟨qb', T5, rfl, hr5, ho5, hf5⟩
        have HP5 := Lib.hid (HP3.out.copied hk10 HR4.out HO4.out HF4.out hr5 ho5 hf5)
        clear hr5 ho5 hf5 HR4 HO4 HF4 HP3 q0 q1 q2 q3 q4 q5
        have hca := HC0.out.fr HP5.out.fr
        have q0 := hca.kind
        have q1 := hca.table
        have q2 := hca.key
        have q3 := hca.col
        have q4 := hca.n
        have q5 := hca.cv
        rw [HCV.out] at q5
        clear hca
        go_wp2_with fail
        rw [← HCV.out]
        refine (HP5.out.call hk9 c HC0.out HM.out).mono ?_
        rintro e w6 ⟨rfl, S6, T6, hp⟩
        rw [← HNX.out] at hp
        have HP6 := Lib.hid hp
        clear hp HP5
        go_wp2_with fail
        refine (tells_any _ HP6.out.cur HP6.out.good HP6.out.few (by omega)).mono ?_
        rintro e w7 ⟨rfl, hf⟩
        have HP7 := Lib.hid (HP6.out.fr0 hf)
        clear hf HP6
        go_wp2_with fail
        go_roundw
        case rel => exact ⟨k + 1, rb', qb', a2, a3, c2, c3, olds ++ [⟨rb, qb, msteps (newMod cols) (l.take k)⟩], by omega, by simp; omega, rfl, rfl, by simp, by simp, by go_num, S6, T6, _, play_eq HP7.out⟩
        case measure => simp [intOf]; omega
      · have h6' : (c.kind % 8 == 6) = false := by rw [beq_eq_false_iff_ne]; exact h6
        clear h6
        obtain ⟨S, T, X, hP⟩ := HI.out
        have HP5 := Lib.hid hP
        clear hP HI
        go_wp2_with fail
        rw [← HCV.out]
        refine (HP5.out.call hk9 c HC0.out HM.out).mono ?_
        rintro e w6 ⟨rfl, S6, T6, hp⟩
        rw [← HNX.out] at hp
        have HP6 := Lib.hid hp
        clear hp HP5
        go_wp2_with fail
        refine (tells_any _ HP6.out.cur HP6.out.good HP6.out.few (by omega)).mono ?_
        rintro e w7 ⟨rfl, hf⟩
        have HP7 := Lib.hid (HP6.out.fr0 hf)
        clear hf HP6
        go_wp2_with fail
        go_roundw
        case rel => exact ⟨k + 1, rb, qb, al, bl, cl, dl, olds, by omega, by omega, rfl, rfl, rfl, rfl, by go_num, S6, T6, _, HP7.out⟩
        case measure => simp [intOf]; omega
    · have hke : k = l.length := by omega
      subst hke
      obtain ⟨S, T, X, hP⟩ := HI.out
      rw [List.take_length] at hP
      have HP := Lib.hid hP
      clear hP HI hlt hk HA
      generalize msteps (newMod cols) l = M at HP
      go_wp2_with fail
      go_loopw [12] (fun vi wr2 => ∃ i : Nat, i ≤ olds.length ∧ vi = .int .i64 i ∧ Fr wr wr2 Nil) (fun vi _ => olds.length - (intOf vi).toNat)
      case atStart => exact ⟨0, by omega, rfl, Fr.refl _ _⟩
      case round =>
        obtain ⟨i, hi, rfl, hf⟩ := hrel
        have HPi := Lib.hid (HP.out.fr0 hf)
        have Hfi := Lib.hid hf
        clear hf
        by_cases hli : i < olds.length
        · have ho := List.getElem?_eq_getElem hli
          generalize olds[i] = o at ho
          obtain ⟨ba, ca2, hva, hcea⟩ := play_cell HPi.out.la (List.length_map _) (i := i) (v := o.pr) (by simp [ho])
          obtain ⟨bb, cb2, hvb, hceb⟩ := play_cell HPi.out.lb (List.length_map _) (i := i) (v := o.pq) (by simp [ho])
          simp only [Value.slice.injEq, true_and] at hva hvb
          obtain ⟨rfl, rfl⟩ := hva
          obtain ⟨rfl, rfl⟩ := hvb
          have HO := Lib.hid (HPi.out.olds o (List.mem_of_getElem? ho))
          have hi1 : (i : Int) < (olds.length : Int) := by omega
          have hp0 : wr.cell? ⟨ba, i, none⟩ = some (.pointer (some ⟨o.rb, 0, none⟩)) := hcea
          have hp1 : wr.cell? ⟨bb, i, none⟩ = some (.pointer (some ⟨o.qb, 0, none⟩)) := hceb
          clear ho hcea hceb
          obtain ⟨go, fo, So, To, hbo, _⟩ := HO.out
          have HBO := Lib.hid hbo
          have HGo := Lib.hid go
          have HFo := Lib.hid fo
          obtain ⟨d, hd⟩ : ∃ d, decide (o.M = M) = d := ⟨_, rfl⟩
          have HD1 := Lib.hid hd
          have HD2 : Hid (decide (colsN o.M = colsN M ∧ flatM o.M = flatM M) = d) := (decide_eq_decide.2 (flat_inj go HPi.out.good)).trans hd
          have hdd : (d != d) = false := by simp
          clear hbo go fo hd HO
          go_wp2_with fail
          go_region_held3 (fun w' => w'.cell? ⟨ba, i, none⟩ = some (.pointer (some ⟨o.rb, 0, none⟩)) ∧ w'.cell? ⟨bb, i, none⟩ = some (.pointer (some ⟨o.qb, 0, none⟩)))
            (first | go_keep | exact hS5)
            (first
              | (go_at_call 25; refine (tells_any _ (HBO.out.fr0 (Fr.refl wr Nil).drew) HGo.out HFo.out (by omega)).mono ?_; rintro e w7 ⟨rfl, hf7⟩; have hfx := (Fr.refl wr Nil).drew.trans0 hf7; have hS5 := And.intro (hfx.cell hp0 (fun h => h)) (hfx.cell hp1 (fun h => h)))
              | (have hx9 := hfx; clear hx9; go_at_call 22; refine (api_same (HBO.out.rws.fr0 hfx) (HPi.out.cur.rws.fr0 hfx) HGo.out HPi.out.good).mono ?_; rintro e w8 ⟨he8, hf8⟩; rw [HD1.out] at he8; subst he8; have hfx := hfx.trans0 hf8; have hS5 := And.intro (hfx.cell hp0 (fun h => h)) (hfx.cell hp1 (fun h => h)))
              | (have hx9 := hfx; clear hx9; go_at_call 23; refine (refsame_any _ (HBO.out.ref.fr0 hfx) (HPi.out.cur.ref.fr0 hfx) (qok_flat HGo.out HFo.out (by omega)) (qok_flat HPi.out.good HPi.out.few (by omega)) (flat_width HGo.out) (flat_width HPi.out.good)).mono ?_; rintro e w9 ⟨he9, hf9⟩; rw [HD2.out] at he9; subst he9; have hfx := hfx.trans0 hf9; have hS5 := And.intro (hfx.cell hp0 (fun h => h)) (hfx.cell hp1 (fun h => h))))
          all_goals
            have HFX := Lib.hid hfx
            clear hfx hS5
            go_wp2_with fail
            go_roundw
            case rel => exact ⟨i + 1, by omega, by go_num, Hfi.out.trans0 HFX.out⟩
            case measure => simp [intOf]; omega
        · go_wp2_with fail
          refine (works_any _).mono ?_
          rintro e w11 ⟨rfl, hf⟩
          have HF11 := Lib.hid (Hf.out.trans0 (HPi.out.fr.trans0 hf))
          clear hf
          go_wp2_with fail
          go_ret
          exact ⟨rfl, HF11.out⟩

theorem plays_any (v va : Value) (cols : List Int) (l : List CallD) (w : World) (hv : IntsAt w v cols) (hl : cols.length ≤ 9223372036854775807) (ha : CallsAt w va l) :
    Calls Try.prog 6 #[v, va] w fun e w' => e = .returned (.bool true) ∧ Fr w w' Nil := by
  by_cases hE : largeB l = true ∨ 100 < cols.length ∨ ¬ colOk cols
  · exact playsLaw_early v va cols l w hv hl ha hE
  · simp only [not_or, Bool.not_eq_true, Classical.not_not] at hE
    exact playsLaw_main v va cols l w hv hl ha hE.1 (by omega) hE.2.2
end Go.Proofs.Ytljgifjokdppgaa
