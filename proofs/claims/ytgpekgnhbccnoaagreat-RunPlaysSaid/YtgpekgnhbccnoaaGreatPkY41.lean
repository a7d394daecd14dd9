/-
 Get, Set, Sum of the document's rows, over things that lie apart.
 No condition but sizes.
-/
import Derived.Test.YtgpekgnhbccnoaaGreatPkY25
import Derived.Test.YtgpekgnhbccnoaaGreatPkY24
import Derived.Test.YtgpekgnhbccnoaaGreatPkY32
import Derived.Test.YtgpekgnhbccnoaaGreatPkY37
import Derived.Test.YtgpekgnhbccnoaaGreatPkY40
namespace Go.Proofs.YtgpekgnhbccnoaaGreat
open Go Go.RowKit

section
variable {w0 W : World} {l : List Thing}
theorem st_qget (h : Lies w0 W l) {qb N : Nat} {M : List MTab} (j : Nat) (hj : l[j]? = some (refM qb M)) (t k : Int) (hg : Good M) (hf : Few N M) (hN : N < 1000) :
  Calls Tryz.prog 59 #[rptr qb, .int .i64 t, .int .i64 k] W fun e W' =>
   (∃ xs, mget (mtab M t) k = some xs ∧ ∃ a cap, e = .returned (.tuple #[.slice a xs.length cap, .bool true]) ∧ Cloned xs W (.slice a xs.length cap) W') ∨
   (mget (mtab M t) k = none ∧ e = .returned (.tuple #[.slice none 0 0, .bool false]) ∧ Fr W W' Nil) := by
 obtain ⟨S, h1, _, h2⟩ := h.get j _ hj
 refine (rget_any t k W h1 (qok_flat hg hf (by omega))).mono fun e W' hr => ?_
 unfold QGetRet at hr
 rw [rel_get] at hr
 exact hr
theorem st_qset (h : Lies w0 W l) {qb N : Nat} {M : List MTab} (j : Nat) (hj : l[j]? = some (refM qb M)) (t k c x : Int) (hg : Good M) (hf : Few N M) (hN : N < 1000) :
  Calls Tryz.prog 60 #[rptr qb, .int .i64 t, .int .i64 k, .int .i64 c, .int .i64 x] W fun e W' => (∃ a b, e = .returned (.tuple #[.bool a, .bool b])) ∧ Lies w0 W' (l.set j (refM qb (mset M t k c x).1)) := by
 obtain ⟨S, h1, _, h2⟩ := h.get j _ hj
 refine (rset_any t k c x W h1 (qok_flat hg hf (by omega)) fun xs hx => ?_).mono fun _ W' ⟨he, a, b⟩ => ⟨⟨_, _, he⟩, ?_⟩
 ·rw [rel_get] at hx
  rw [rel_cols]
  exact congrArg Int.ofNat ((hg.at t).width (k, xs) (mget_mem hx))
 ·rw [rel_set hg t k c x (good_set hg hf t k c x).1, ← colsN_set M t k c x] at a
  exact h2 W' _ (refM qb (mset M t k c x).1) a (fun k hk => hk.imp id fun h => h.1) (b.mono fun k _ e => by have e : k = qb := e; rw [e]; exact ref_in h1)
theorem st_qsum (h : Lies w0 W l) {qb N : Nat} {M : List MTab} (j : Nat) (hj : l[j]? = some (refM qb M)) (t c : Int) (hg : Good M) (hf : Few N M) (hN : N < 1000) :
  Calls Tryz.prog 62 #[rptr qb, .int .i64 t, .int .i64 c] W fun e W' => e = .returned (.int .i64 (msum (mtab M t) c)) ∧ Fr W W' Nil := by
 obtain ⟨S, h1, _, h2⟩ := h.get j _ hj
 refine (rsum_any t c W h1 (qok_flat hg hf (by omega))).mono fun _ W' ⟨he, hf2⟩ => ⟨?_, hf2⟩
 rw [he, rel_sum hg]
end
theorem Tryz.infoDI : (Tryz.prog.info? 97).map (fun i => i.size) = some 13 := by kernel_rfl
/-- The document's error. -/
def errD (e : Int) : Int := if e = 0 then 0 else e - 1
theorem noteD_is (M : List MTab) (most : Int) (lg : List (Int × Ent)) (t : Int) : noteD M most lg t = errD (noteE M most lg t) := by
 unfold noteD noteE errD
 split
 ·rfl
 ·split <;> rfl
theorem errD_ne {e : Int} (h : e = 2 ∨ e = 3) : errD e ≠ 0 := by unfold errD; rcases h with rfl | rfl <;> decide
theorem noteE_ne {M : List MTab} {most : Int} {lg : List (Int × Ent)} {t : Int} (h : noteE M most lg t ≠ 0) : noteE M most lg t = 2 ∨ noteE M most lg t = 3 := by
 unfold noteE at h ⊢
 split
 ·exact .inl rfl
 ·rename_i h1
  rw [if_neg h1] at h
  split
  ·exact .inr rfl
  ·rename_i h2
   rw [if_neg h2] at h
   exact absurd rfl h
/-- What the document's step leaves. -/
def DStepRet (w0 : World) (l : List Thing) (i j k : Nat) (q : DStV) (qb vb : Nat) (most : Int) (r : WantD × Int × MachD) (e : Ending) (W' : World) : Prop :=
 e = .returned (.tuple #[r.1.val, .int .i64 (errD r.2.1)]) ∧ ∃ ov, Lies w0 W' (L3 l i j k (dstT { q with at' := r.2.2.at', vars := r.2.2.vars, out := r.2.2.out, ov := ov }) (refM qb r.2.2.M) (dlogT vb most r.2.2.lg))
/-- What an instruction has done. -/
def DoneR (w0 : World) (l : List Thing) (i j k : Nat) (q : DStV) (qb : Nat) (M : List MTab) (z : Thing) (n : InstrD) (W' : World) : Prop :=
 ∃ ov, Lies w0 W' (L3 l i j k (dstT { q with vars := doV n q.vars M, out := doO n q.vars q.out, ov := ov }) (refM qb (doM n q.vars M)) z)
theorem DoneR.mk {w0 : World} {l : List Thing} {i j k : Nat} {q : DStV} {qb : Nat} {M M' : List MTab} {z : Thing} {n : InstrD} {W' : World} {vs os : List Int} {ov : Value} (h : Lies w0 W' (L3 l i j k (dstT { q with vars := vs, out := os, ov := ov }) (refM qb M') z))
  (hv : doV n q.vars M = vs) (ho : doO n q.vars q.out = os) (hm : doM n q.vars M = M') : DoneR w0 l i j k q qb M z n W' := by
 subst hv; subst ho; subst hm
 exact ⟨ov, h⟩
def atN (o : Option Int) (a : Nat) : Nat := match o with
 | some t => t.toNat
 | none => a + 1
theorem nextAt_is (o : Option Int) (a : Nat) (h : ∀ t, o = some t → 0 ≤ t) : nextAt o a = (atN o a : Int) := by
 cases o with
 | none => rfl
 | some t => have := h t rfl; show t = ((t.toNat : Nat) : Int); omega
theorem mtab_col {M : List MTab} {TB : List Int} (hTB : colsN M = TB) {i : Int} (h0 : 0 ≤ i) (h1 : i < M.length) : ((mtab M i).1 : Int) = TB.getD i.toNat 0 := by
 subst hTB
 unfold mtab colsN
 rw [if_pos h0, List.getD_eq_getElem?_getD, List.getElem?_map, List.getElem?_eq_getElem (by omega)]
 rfl
theorem DStAt.keepI {w w' : World} {q : DStV} {C T : Nat → Prop} (h : DStAt w q C) (hf : Fr w w' T) (hd : ∀ k, C k → ¬ T k) {b off n c : Nat} (hlv : q.lv = .slice (some ⟨b, off, none⟩) n c) {i : Nat} {x : InstrD} (hx : q.L[i]? = some x) {kv vv : Value}
  (c11 : w.cell? ⟨b, off + i * 13 + 11, none⟩ = some kv) (c12 : w.cell? ⟨b, off + i * 13 + 12, none⟩ = some vv) : TermsAt w' kv x.key ∧ ValsAt w' vv x.vals := by
 have hcode := h.code
 rw [hlv] at hcode
 have hC : C b := by
  apply Classical.byContradiction
  intro hn
  have h1 := hcode _ _ (Fr.store w b (off + i * 13 + 11) (.bool true)) (fun k hk e => hn (by have e : k = b := e; rw [← e]; exact hk))
  obtain ⟨kv', vv', hc, ht, _⟩ := h1.instr hx
  have h2 := hc 11 kv' rfl
  rw [World.cell?_setCell_same w _ _ c11] at h2
  cases h2
  obtain ⟨a, c, he⟩ := ht.shape
  cases he
 obtain ⟨kv', vv', hc, ht, hv⟩ := (hcode w' T hf hd).instr hx
 have e1 := hf.cell c11 (hd b hC)
 have e2 := hf.cell c12 (hd b hC)
 rw [hc 11 kv' rfl] at e1
 rw [hc 12 vv' rfl] at e2
 cases e1
 cases e2
 exact ⟨ht, hv⟩
def KeptDC (W W' : World) (q : DStV) : Prop := ∃ C T, DStAt W q C ∧ Fr W W' T ∧ ∀ m, C m → ¬ T m
section
variable {w0 W : World} {l : List Thing}
theorem st_dnoteK (h : Lies w0 W l) {lb qb N : Nat} {most : Int} {L : List (Int × Ent)} {M : List MTab} (i j : Nat) (hi : l[i]? = some (dlogT lb most L)) (hj : l[j]? = some (refM qb M)) (s : Nat) {q : DStV} (hs : l[s]? = some (dstT q)) (his : i ≠ s) (who t k : Int) (hg : Good M) (hf : Few N M) (hN : N < 1000) (hl : L.length ≤ 100000) :
  Calls Tryz.prog 58 #[rptr lb, .int .i64 who, rptr qb, .int .i64 t, .int .i64 k] W fun e W' => e = .returned (.int .i64 (noteD M most L t)) ∧ Lies w0 W' (l.set i (dlogT lb most (noteL M most L who t k))) ∧ KeptDC W W' q := by
 obtain ⟨S, R, ⟨lv, g, a1, rfl, a3, a4⟩, ⟨C, hst, hC⟩, hd, h2⟩ := h.get2 i s _ _ hi hs his
 obtain ⟨T, b1, _⟩ := h.get j _ hj
 rw [dmods_len] at hl
 refine (dnote_any who t k W a1 b1 hg hf hN hl).mono fun _ W' ⟨he, hu⟩ => ?_
 obtain ⟨c1, c2⟩ := hu.at a3 a4
 refine ⟨he, ?_, C, S, hst, c2, fun m hm hs => hd m hs ((hC m).2 (.inr (.inr (.inr hm))))⟩
 have hR : (dstT q).At W R := ⟨C, hst, hC⟩
 have hx := h2 W' _ R (dlogT lb most (noteL M most (dmods g) who t k)) (dstT q) c1 ((dstT q).fr hR c2 fun k hk hs => hd k hs hk) (fun k hk => hk.imp id fun h => h.1) (fun k hk => .inl hk) (fun k hk hr => hk.elim (fun hk => hd k hk hr) fun hk => by have := (dstT q).lt hR k hr; have := hk.1; omega) (c2.mono fun k _ hk => .inl hk)
 have e : ((l.set i (dlogT lb most (noteL M most (dmods g) who t k))).set s (dstT q)) = l.set i (dlogT lb most (noteL M most (dmods g) who t k)) := by
  have hg : (l.set i (dlogT lb most (noteL M most (dmods g) who t k)))[s]? = some (dstT q) := by rw [List.getElem?_set_ne his]; exact hs
  have hlt2 := (List.getElem?_eq_some_iff.1 hg).1
  rw [← (List.getElem?_eq_some_iff.1 hg).2]
  exact List.set_getElem_self hlt2
 rwa [e] at hx
end
end Go.Proofs.YtgpekgnhbccnoaaGreat
