/-
  Who finished: the program's walk: sorted, and made each once.
  No condition but sizes.
-/
import Derived.Test.YtegejcmihojhbaaHgFinP
import Derived.Test.YtegejcmihojhbaaHsSort
import Derived.Test.YtegejcmihojhbaaHsNext
import Derived.Lib.SlicesCompact
namespace Go.Proofs.Ytegejcmihojhbaa
open Go Go.RowKit Go.Sort

theorem compact_spec (zs : List Int) (hs : zs.Pairwise (· ≤ ·)) : Inc (Lib.compact zs) ∧ ∀ y, y ∈ Lib.compact zs ↔ y ∈ zs := by
  have hg : ∀ j, j < zs.length → zs.toArray[j]! = zs.getD j 0 := by
    intro j hj
    rw [getElem!_pos zs.toArray j (by simpa using hj)]
    simp [List.getD_eq_getElem?_getD, hj]
  have hle : ∀ i j, i ≤ j → j < zs.length → zs.getD i 0 ≤ zs.getD j 0 := by
    intro i j hij hj
    rcases Nat.lt_or_ge i j with h | h
    · have := List.pairwise_iff_getElem.1 hs i j (by omega) hj h
      simpa [List.getD_eq_getElem?_getD, hj, show i < zs.length by omega] using this
    · obtain rfl : i = j := by omega
      exact Int.le_refl _
  have key : ∀ m, m ≤ zs.length → Inc (Lib.compactUpTo zs.toArray m) ∧ ∀ y, y ∈ Lib.compactUpTo zs.toArray m ↔ ∃ j, j < m ∧ zs.getD j 0 = y := by
    intro m
    induction m with
    | zero => intro _; exact ⟨List.Pairwise.nil, fun y => ⟨(fun h => by cases h), fun ⟨j, h, _⟩ => by omega⟩⟩
    | succ m ih =>
      intro hm
      obtain ⟨h1, h2⟩ := ih (by omega)
      rw [Lib.compactUpTo_succ]
      cases hk : Lib.keeps zs.toArray m with
      | true =>
        rw [if_pos rfl, hg m (by omega)]
        refine ⟨List.pairwise_append.2 ⟨h1, by simp, fun a ha b hb => ?_⟩, fun y => ?_⟩
        · simp at hb; subst hb
          obtain ⟨j, hj, rfl⟩ := (h2 a).1 ha
          have hm0 : m ≠ 0 := by omega
          have hne : zs.getD m 0 ≠ zs.getD (m - 1) 0 := by
            unfold Lib.keeps at hk
            rw [decide_eq_true_eq, hg m (by omega), hg (m - 1) (by omega)] at hk
            rcases hk with h | h
            · omega
            · exact h
          have l1 := hle j (m - 1) (by omega) (by omega)
          have l2 := hle (m - 1) m (by omega) (by omega)
          simp only [List.getD_eq_getElem?_getD] at *
          omega
        · rw [List.mem_append, h2, List.mem_singleton]
          constructor
          · rintro (⟨j, hj, e⟩ | e)
            · exact ⟨j, by omega, e⟩
            · exact ⟨m, by omega, e.symm⟩
          · rintro ⟨j, hj, e⟩
            by_cases hjm : j = m
            · subst hjm; exact .inr e.symm
            · exact .inl ⟨j, by omega, e⟩
      | false =>
        rw [if_neg (by simp), List.append_nil]
        refine ⟨h1, fun y => ?_⟩
        rw [h2]
        have hm0 : m ≠ 0 := by
          intro e; subst e
          simp [Lib.keeps] at hk
        have he : zs.getD m 0 = zs.getD (m - 1) 0 := by
          unfold Lib.keeps at hk
          rw [decide_eq_false_iff_not, hg m (by omega), hg (m - 1) (by omega)] at hk
          exact Classical.byContradiction fun h => hk (.inr h)
        constructor
        · rintro ⟨j, hj, e⟩
          exact ⟨j, by omega, e⟩
        · rintro ⟨j, hj, e⟩
          by_cases hjm : j = m
          · subst hjm; exact ⟨j - 1, by omega, he.symm.trans e⟩
          · exact ⟨j, by omega, e⟩
  obtain ⟨h1, h2⟩ := key zs.length (Nat.le_refl _)
  refine ⟨h1, fun y => ?_⟩
  unfold Lib.compact
  rw [h2]
  constructor
  · rintro ⟨j, hj, e⟩
    rw [← e, List.getD_eq_getElem?_getD, List.getElem?_eq_getElem hj]
    exact List.getElem_mem hj
  · intro hy
    obtain ⟨j, hj⟩ := List.getElem?_of_mem hy
    exact ⟨j, (List.getElem?_eq_some_iff.1 hj).1, by rw [List.getD_eq_getElem?_getD, hj]; rfl⟩

theorem compact_len (zs : List Int) : (Lib.compact zs).length ≤ zs.length := by
  unfold Lib.compact Lib.compactUpTo
  rw [List.length_map]
  refine Nat.le_trans (List.length_filter_le _ _) (by simp)

theorem fin_done (l : List AnsD) : FinR l l.length (Lib.compact (sortZ (okWho l))) := by
  obtain ⟨h1, h2⟩ := compact_spec _ (sortZ_sorted (okWho l))
  refine ⟨h1, fun y => ?_, ?_⟩
  · rw [List.take_length]
    exact (h2 y).trans (sortZ_perm _).mem_iff
  · refine Nat.le_trans (compact_len _) ?_
    rw [sortZ_len]
    exact okWho_len l

def CmpRet (v : Value) (xs : List Int) (w : World) (e : Ending) (w' : World) : Prop :=
  ∃ a cap, e = .returned (.slice a (Lib.compact xs).length cap) ∧ OwnInts w' 2 (.slice a (Lib.compact xs).length cap) (Lib.compact xs) ∧ (Value.slice a (Lib.compact xs).length cap).ownBlock = v.ownBlock ∧ Fr w w' (fun k => v.ownBlock = some k)
theorem grow_none (w : World) : grow w #[] = w := by simp [grow]
theorem compact_i64 (v : Value) (xs : List Int) (w : World) (h : OwnInts w 2 v xs) (hl : xs.length ≤ 1000000) : Calls Try.prog 35 #[v] w (CmpRet v xs w) := by
  rcases h.2 with ⟨rfl, hn⟩ | ⟨g, cap, cur, rfl, hb, hg, h1, h2, h3, h4⟩
  · obtain rfl : xs = [] := List.eq_nil_of_length_eq_zero hn
    refine (AnyG.slices_Compact_int_empty Try.laysCompactI64 none 0 w).mono ?_
    rintro e w' ⟨rfl, rfl⟩
    exact ⟨none, 0, rfl, h, rfl, Fr.refl _ _⟩
  · refine (AnyG.slices_Compact_int Try.laysCompactI64 g 0 cap xs w (holds_of h).1 (by omega) h1).mono ?_
    rintro e w' ⟨rfl, q, rfl⟩
    have hcl := compact_len xs
    have hts : (Lib.compact xs ++ List.replicate (xs.length - (Lib.compact xs).length) 0).length = xs.length := by simp; omega
    have ho := ownsRow_sortedI (w := w) (base := 0) (g := g) (cap := cap) (n := q) (e := 2) (os := #[]) (cur := cur) (ss := xs) hts hb hg h1 h2 h3
    have hgr := grownBy_sortedI (w := w) (g := g) (n := q) (os := #[]) (Lib.compact xs ++ List.replicate (xs.length - (Lib.compact xs).length) 0).toArray
    rw [grow_none] at ho hgr
    refine ⟨_, cap, rfl, ?_, rfl, (Fr.refl w _).grown hgr fun k hk _ => by simpa [Value.ownBlock] using hk⟩
    rcases ho.2 with ⟨e1, _⟩ | ⟨g', cap', cur', e1, f1, f2, f3, f4, f5, f6⟩
    · cases e1
    cases e1
    refine ⟨by simp, .inr ⟨_, _, cur', rfl, f1, f2, by omega, f4, f5, ?_⟩⟩
    have := congrArg (List.take (Lib.compact xs).length) f6
    rw [List.take_take, Nat.mul_one, Nat.min_eq_left hcl] at this
    rw [Nat.mul_one, this, List.map_append, List.take_left' (by simp)]

theorem own_snoc64 {B : Nat} {wr w' : World} {v v' : Value} {l : List Int} {x : Int} {o : Obj} (hn : NewFrom B v) (hB : B ≤ wr.heap.size)
    (ho : w'.ownsRow 0 2 1 v' (l.length + 1) (l.map (Value.int .i64) ++ [.int .i64 x])) (hg : (wr.alloc o).grownBy w' v.ownBlock) (hb : v'.ownBlock = v.ownBlock ∨ v'.ownBlock = some (wr.heap.size + 1)) :
    OwnInts w' 2 v' (l ++ [x]) ∧ NewFrom B v' ∧ Fr wr w' (fun j => v.ownBlock = some j) := by
  refine ⟨?_, fun k hk => ?_, ?_⟩
  · unfold OwnInts
    rw [List.length_append, List.map_append]
    exact ho
  · rcases hb with hb | hb
    · exact hn k (by rw [← hb, hk])
    · rw [hk] at hb; cases hb; omega
  · exact ((Fr.refl wr _).alloc o).grown hg fun k hk _ => hk

set_option maxRecDepth 100000 in
set_option maxHeartbeats 4000000 in
theorem fin_any (ta : Option Addr) (tcap : Nat) (ts : List AnsD) (w : World) (h : AnsAt w (.slice ta ts.length tcap) ts) (hl : ts.length ≤ 1000) :
    Calls Try.prog 21 #[.slice ta ts.length tcap] w (FinRet ts w) := by
  have H := Lib.hid h
  clear h
  go_enter Try.func21, Try.ntmps21
  go_wp2_with fail
  go_loopw [3, 5, 8] (fun vo _ vi wr => ∃ (i : Nat) (a : Option Addr) (cap : Nat), i ≤ ts.length ∧ vi = .int .i64 i ∧ vo = .slice a (okWho (ts.take i)).length cap ∧ OwnInts wr 2 vo (okWho (ts.take i)) ∧ NewFrom w.heap.size vo ∧ Fr w wr Nil) (fun _ _ vi _ => ts.length - (intOf vi).toNat)
  case atStart => exact ⟨0, none, 0, by omega, rfl, rfl, World.ownsRow_nil _ _ _ _, (fun k hk => by cases hk), Fr.refl _ _⟩
  case round =>
    obtain ⟨i, a, cap, hi, rfl, rfl, ho, hb, hf⟩ := hrel
    have HO := Lib.hid ho
    have HB := Lib.hid hb
    have Hf := Lib.hid hf
    obtain ⟨wo, rfl⟩ : ∃ wo : World, wo = wr := ⟨_, rfl⟩
    clear ho hb hf
    by_cases hlt : i < ts.length
    · obtain ⟨tb, toff, tcap2, hv, hc⟩ := flat_form (n := 5) (f := AnsD.vals) (fun _ => rfl) (by decide) (SlAt.fr0 H.out Hf.out) (by omega)
      simp only [Value.slice.injEq, true_and] at hv
      obtain ⟨rfl, rfl⟩ := hv
      have hit := List.getElem?_eq_getElem hlt
      have hsu := okWho_succ hit
      have hlw := okWho_len (ts.take i)
      rw [List.length_take] at hlw
      have hlw2 : (okWho (ts.take i)).length ≤ 1000 := by omega
      clear hlw
      generalize ts[i] = t at hit hsu
      obtain ⟨tw, tt, tr, tk, toa, ton, toc, tok⟩ := t
      have c0 := hc i _ hit 0 _ rfl
      have c1 := hc i _ hit 1 _ rfl
      have c2 := hc i _ hit 2 _ rfl
      have c3 := hc i _ hit 3 _ rfl
      have c4 := hc i _ hit 4 _ rfl
      simp only [Nat.add_zero] at c0
      have hil : (i : Int) < (ts.length : Int) := by omega
      have hb4 := Bk.new wo 74 #[.int .i64 tw, .int .i64 tt, .int .i64 tr, .bool tk, .slice toa ton toc]
      have HB4 := Lib.hid hb4
      clear hb4 hc hit
      cases hcd : (tr == 0) with
      | false =>
        have HS : Hid (okWho (ts.take (i + 1)) = okWho (ts.take i)) := by
          rw [hsu]; simp only [hcd]; rfl
        clear hsu
        go_wp2_with fail
        go_roundw
        case rel => exact ⟨i + 1, a, cap, by omega, by go_num, by rw [HS.out], by rw [HS.out]; exact OwnInts.fr HO.out ((Fr.refl _ Nil).alloc _) (fun _ _ h => h), HB.out, Hf.out.alloc _⟩
        case measure => simp [intOf]; omega
      | true =>
        have HS : Hid (okWho (ts.take (i + 1)) = okWho (ts.take i) ++ [tw]) := by
          rw [hsu]; simp only [hcd]; rfl
        clear hsu
        generalize okWho (ts.take i) = zs at *
        have Hlen : Hid (zs.length + 1 ≤ 1000000) := by
          have : zs.length + 1 ≤ 1000000 := by omega
          exact this
        go_wp2_with (at_builtin; refine wpList_app _ rfl _ _ 22 rfl sl64 _ rfl (World.ownsRow.alloc (World.ownsRow.alloc HO.out _) _) _ rfl (one_at _ _ _ _ (by simp)) (ints_one _) Hlen.out ?_)
        intro g3 cap3 w3 ho3 hg3 hb3
        have h1 := own_snoc64 (wr := wo.alloc (.cells #[.int .i64 tw, .int .i64 tt, .int .i64 tr, .bool tk, .slice toa ton toc] 74)) HB.out (by have := Hf.out.size; simp; omega) ho3 hg3 (by simpa using hb3)
        have H1 := Lib.hid h1
        have HF3 : Hid (Fr w w3 Nil) := (Hf.out.alloc _).trans h1.2.2 fun j hj hj2 => absurd hj (by have := HB.out j hj2; omega)
        clear h1 ho3 hg3 hb3
        go_wp2_with fail
        go_roundw
        case rel => exact ⟨i + 1, g3, cap3, by omega, by go_num, by rw [HS.out]; simp, by rw [HS.out]; exact H1.out.1, H1.out.2.1, HF3.out⟩
        case measure => simp [intOf]; omega
    · obtain rfl : i = ts.length := by omega
      rw [List.take_length] at HO HB ⊢
      have hzl := okWho_len ts
      have HD := Lib.hid (fin_done ts)
      generalize okWho ts = zs at *
      go_wp2_with fail
      refine (sort_i64 _ zs _ HO.out (by omega)).mono ?_
      rintro e w2 ⟨rfl, ho2, hf2⟩
      have HO2 := Lib.hid ho2
      have HF2 : Hid (Fr w w2 Nil) := Hf.out.trans hf2 fun j hj hj2 => absurd hj (by have := HB.out j hj2; omega)
      have hsl := sortZ_len zs
      clear ho2 hf2
      generalize sortZ zs = ys at *
      rw [← hsl] at HO2 HB ⊢
      have hyl : ys.length ≤ 1000000 := by omega
      clear hsl hzl
      go_wp2_with fail
      refine (compact_i64 _ ys _ HO2.out hyl).mono ?_
      rintro e w3 ⟨a3, cap3, rfl, ho3, hb3, hf3⟩
      have HO3 := Lib.hid ho3
      have HB3 : Hid (NewFrom w.heap.size (.slice a3 (Lib.compact ys).length cap3)) := fun k hk => HB.out k (by rw [← hb3]; exact hk)
      have HF3 : Hid (Fr w w3 Nil) := HF2.out.trans hf3 fun j hj hj2 => absurd hj (by have := HB.out j hj2; omega)
      clear ho3 hb3 hf3
      generalize Lib.compact ys = xs at *
      go_wp2_with fail
      go_ret
      exact ⟨xs, a3, cap3, HD.out, rfl, HO3.out, HB3.out, HF3.out⟩
end Go.Proofs.Ytegejcmihojhbaa
