/-
  Walk of clone: instructions of their own memory.
  No condition but sizes.
-/
import Derived.Test.YtgpekgnhbccnoaaGreatPkZb18
import Derived.Test.YtgpekgnhbccnoaaGreatPkZb15
import Derived.Test.YtgpekgnhbccnoaaGreatPkZb19
import Derived.Test.YtgpekgnhbccnoaaGreatPkZb22
namespace Go.Proofs.YtgpekgnhbccnoaaGreat
open Go Go.RowKit
attribute [local go_sem ↓] Go.wp_at_zero Go.wp_at_succ

section
variable {P : Program} {md : Region.Mode} {ops : Array Oper} {Q : Exit → Act → World → Prop} {S : World → Prop} {n : Nat}
/-- The last ones, one behind the other. -/
theorem wpAnyS_tail {l : List Oper} {fuel : Nat} {listed : Array Bool} {a : Act} {w : World} (hl : ops = l.toArray) (hf : (l.drop n).length = fuel + 1) (hB : Region.seqB md ops (fuel + 1) n listed = true)
    (hr : (Region.ready md ops listed).all (fun i => decide (n ≤ i)) = true) (h : wpList P ops Q (l.drop n) a w) : wpAnyS P md ops Q S n (fuel + 1) listed a w := by
  have h2 := wpAny_of_seq (P := P) (md := md) (ops := ops) (Q' := Q) (l.drop n) n listed a w (fun j => by rw [hl]; simp [List.getElem?_drop]) (by rw [hf]; exact hB) h
  rw [hf] at h2
  exact ⟨h2.1, fun i hi => wpOp_mono (fun a' w' h3 => ⟨fun _ => h3, fun h4 => by
    rw [List.all_eq_true] at hr
    have := hr i hi
    simp at this
    omega⟩) (h2.2 i hi)⟩
end
/-- The cells of a list of cells that are instruction j's. -/
def InstrRow (cs : List Value) (j : Nat) (n : InstrD) (kv vv : Value) : Prop := ∀ t u, (n.cs kv vv)[t]? = some u → cs[j * 13 + t]? = some u
theorem cs_lt {n : InstrD} {kv vv u : Value} {t : Nat} (h : (n.cs kv vv)[t]? = some u) : t < 13 := by
  have := (List.getElem?_eq_some_iff.1 h).1
  simpa using this
/-- Other instructions' cells stay. -/
theorem InstrRow.other {cs : List Value} {j i : Nat} {n : InstrD} {kv vv : Value} (h : InstrRow cs j n kv vv) (hij : j ≠ i) (t : Nat) (ht : t < 13) (u : Value) : InstrRow (cs.set (i * 13 + t) u) j n kv vv := fun s x hx => by
  have hs := cs_lt hx
  rw [List.getElem?_set_ne (by omega)]
  exact h s x hx
theorem InstrRow.setK {cs : List Value} {i : Nat} {n : InstrD} {kv vv : Value} (h : InstrRow cs i n kv vv) (kv' : Value) : InstrRow (cs.set (i * 13 + 11) kv') i n kv' vv := fun s x hx => by
  have hs := cs_lt hx
  have h11 := h 11 kv rfl
  by_cases e : s = 11
  · subst e
    rw [List.getElem?_set_self (List.getElem?_eq_some_iff.1 h11).1]
    exact hx
  · rw [List.getElem?_set_ne (by omega)]
    refine h s x ?_
    rw [← hx]
    match s, hs, e with
    | 0, _, _ => rfl | 1, _, _ => rfl | 2, _, _ => rfl | 3, _, _ => rfl | 4, _, _ => rfl | 5, _, _ => rfl | 6, _, _ => rfl | 7, _, _ => rfl | 8, _, _ => rfl | 9, _, _ => rfl | 10, _, _ => rfl | 12, _, _ => rfl
theorem InstrRow.setV {cs : List Value} {i : Nat} {n : InstrD} {kv vv : Value} (h : InstrRow cs i n kv vv) (vv' : Value) : InstrRow (cs.set (i * 13 + 12) vv') i n kv vv' := fun s x hx => by
  have hs := cs_lt hx
  have h12 := h 12 vv rfl
  by_cases e : s = 12
  · subst e
    rw [List.getElem?_set_self (List.getElem?_eq_some_iff.1 h12).1]
    exact hx
  · rw [List.getElem?_set_ne (by omega)]
    refine h s x ?_
    rw [← hx]
    match s, hs, e with
    | 0, _, _ => rfl | 1, _, _ => rfl | 2, _, _ => rfl | 3, _, _ => rfl | 4, _, _ => rfl | 5, _, _ => rfl | 6, _, _ => rfl | 7, _, _ => rfl | 8, _, _ => rfl | 9, _, _ => rfl | 10, _, _ => rfl | 11, _, _ => rfl | 12, _, e => exact absurd rfl e | s + 13, hs, _ => omega
/-- Instruction j of the clone: it is done (of blocks of its own), or as it came. -/
def EntAt (w wr : World) (X : Nat → Prop) (cs : List Value) (j : Nat) (n : InstrD) (done : Bool) : Prop :=
  ∃ ka kc va vc, InstrRow cs j n (.slice ka n.key.length kc) (.slice va n.vals.length vc) ∧
    (done = true → NewS w.heap.size X wr (fun w => TermsAt w (.slice ka n.key.length kc) n.key ∧ ValsAt w (.slice va n.vals.length vc) n.vals)) ∧
    (done = false → TermsAt w (.slice ka n.key.length kc) n.key ∧ ValsAt w (.slice va n.vals.length vc) n.vals)
structure ClI (w wr : World) (X : Nat → Prop) (cb c i : Nat) (L : List InstrD) (cs : List Value) : Prop where
  own : wr.ownsRow w.heap.size 81 13 (.slice (some ⟨cb, 0, none⟩) L.length c) L.length cs
  ent : ∀ (j : Nat) (n : InstrD), L[j]? = some n → EntAt w wr X cs j n (decide (j < i))
  fr : Fr w wr Nil
theorem EntAt.fr {w wr wr' : World} {X T : Nat → Prop} {cs : List Value} {j : Nat} {n : InstrD} {d : Bool} (h : EntAt w wr X cs j n d) (hf : Fr wr wr' T) (hd : ∀ k, w.heap.size ≤ k → k < wr.heap.size → ¬ X k → ¬ T k) : EntAt w wr' X cs j n d := by
  obtain ⟨ka, kc, va, vc, h1, h2, h3⟩ := h
  exact ⟨ka, kc, va, vc, h1, fun e => (h2 e).fr hf hd, h3⟩
/-- The values of a slice, as a list of cells. -/
theorem ValsAt.cells {w : World} {v : Value} {l : List (List TermD)} (h : ValsAt w v l) : ∃ tvs : List Value, CSl w 1 v l.length tvs ∧ (∀ u ∈ tvs, u.oneCell' = true) ∧ ∀ (t : Nat) (x : List TermD), l[t]? = some x → ∃ xa xc, tvs[t]? = some (.slice xa x.length xc) ∧ TermsAt w (.slice xa x.length xc) x := by
  obtain ⟨a, cap, rfl, rfl | ⟨b, off, rfl, hc⟩⟩ := h
  · refine ⟨[], ⟨by simp, a, cap, rfl, fun _ => rfl, fun ad _ j u hu => by simp at hu⟩, by simp, fun t x hx => by simp at hx⟩
  · have key : ∀ t : Nat, ∃ p : Option Addr × Nat, ∀ x, l[t]? = some x → w.cell? ⟨b, off + t, none⟩ = some (.slice p.1 x.length p.2) ∧ TermsAt w (.slice p.1 x.length p.2) x := fun t => by
      cases e : l[t]? with
      | none => exact ⟨(none, 0), fun x hx => by cases hx⟩
      | some x =>
        obtain ⟨tv, h1, h2⟩ := hc t x e
        obtain ⟨xa, xc, rfl⟩ := h2.shape
        exact ⟨(xa, xc), fun y hy => by cases hy; exact ⟨h1, h2⟩⟩
    obtain ⟨f, hf⟩ : ∃ f : Nat → Option Addr × Nat, ∀ t x, l[t]? = some x → w.cell? ⟨b, off + t, none⟩ = some (.slice (f t).1 x.length (f t).2) ∧ TermsAt w (.slice (f t).1 x.length (f t).2) x := ⟨fun t => (key t).choose, fun t => (key t).choose_spec⟩
    have hm : ∀ (t : Nat) (x : List TermD), l[t]? = some x → ((List.range l.length).map fun t => Value.slice (f t).1 (l.getD t []).length (f t).2)[t]? = some (.slice (f t).1 x.length (f t).2) := fun t x hx => by
      have ht := (List.getElem?_eq_some_iff.1 hx).1
      rw [List.getElem?_map, List.getElem?_range ht]
      simp [hx]
    refine ⟨(List.range l.length).map fun t => .slice (f t).1 (l.getD t []).length (f t).2, ⟨by simp, _, cap, rfl, (fun h => by cases h), fun ad hd j u hu => ?_⟩, fun u hu => ?_, fun t x hx => ⟨_, _, hm t x hx, (hf t x hx).2⟩⟩
    · cases hd
      have hj := (List.getElem?_eq_some_iff.1 hu).1
      simp only [List.length_map, List.length_range] at hj
      rw [hm j _ (List.getElem?_eq_getElem hj)] at hu
      cases hu
      rw [Addr.add_lit]
      exact (hf j _ (List.getElem?_eq_getElem hj)).1
    · rw [List.mem_map] at hu
      obtain ⟨t, _, rfl⟩ := hu
      rfl
/-- The values, some of them of blocks of their own. -/
structure VaI (w wr : World) (X : Nat → Prop) (va : Option Addr) (vc k : Nat) (l : List (List TermD)) (tvs : List Value) : Prop where
  own : wr.ownsRow w.heap.size 77 1 (.slice va l.length vc) l.length tvs
  ent : ∀ (t : Nat) (x : List TermD), l[t]? = some x → ∃ xa xc, tvs[t]? = some (.slice xa x.length xc) ∧ (t < k → NewS w.heap.size X wr (fun w => TermsAt w (.slice xa x.length xc) x)) ∧ (k ≤ t → TermsAt w (.slice xa x.length xc) x)
theorem VaI.vals {w wr : World} {X X' : Nat → Prop} {va : Option Addr} {vc : Nat} {l : List (List TermD)} {tvs : List Value} (h : VaI w wr X va vc l.length l tvs) (hX : ∀ k, X' k → X k) (hv : ∀ k, (Value.slice va l.length vc).ownBlock = some k → ¬ X' k) : NewS w.heap.size X' wr (fun w => ValsAt w (.slice va l.length vc) l) := by
  have h1 := NewS.own h.own hv
  have h2 : NewS w.heap.size X' wr (fun w => ∀ p : Nat × List TermD, l[p.1]? = some p.2 → ∃ xa xc, tvs[p.1]? = some (.slice xa p.2.length xc) ∧ TermsAt w (.slice xa p.2.length xc) p.2) := by
    refine NewS.all fun p hp => ?_
    obtain ⟨xa, xc, h3, h4, _⟩ := h.ent p.1 p.2 hp
    exact ((h4 (List.getElem?_eq_some_iff.1 hp).1).weak hX).imp fun w hw => ⟨xa, xc, h3, hw⟩
  refine (h1.and h2).imp fun w' hw => ?_
  obtain ⟨ho, hc⟩ := hw
  cases l with
  | nil => exact ⟨va, vc, rfl, .inl rfl⟩
  | cons y l =>
    obtain ⟨g, cap, hg, _⟩ : ∃ g cap, Value.slice va (y :: l).length vc = .slice (some ⟨g, 0, none⟩) (y :: l).length cap ∧ True := by
      rcases ho.2 with ⟨_, h0⟩ | ⟨g, cap, cur, hv, _⟩
      · simp at h0
      · exact ⟨g, cap, hv, trivial⟩
    simp only [Value.slice.injEq, true_and] at hg
    obtain ⟨rfl, rfl⟩ := hg
    refine ⟨_, vc, rfl, .inr ⟨g, 0, rfl, fun t x hx => ?_⟩⟩
    obtain ⟨xa, xc, h3, h4⟩ := hc (t, x) hx
    refine ⟨_, ?_, h4⟩
    rw [Nat.zero_add, World.ownsRow.cellAt ho t (by have := (List.getElem?_eq_some_iff.1 hx).1; omega)]
    exact h3
theorem ClI.code {w wr : World} {cb c : Nat} {L : List InstrD} {cs : List Value} (h : ClI w wr (fun k => k = cb) cb c L.length L cs) : NewS w.heap.size (fun _ => False) wr (fun w => CodeAt w (.slice (some ⟨cb, 0, none⟩) L.length c) L) := by
  have h1 : NewS w.heap.size (fun _ => False) wr _ := NewS.own h.own fun k _ h => h
  have h2 : NewS w.heap.size (fun _ => False) wr (fun w => ∀ p : Nat × InstrD, L[p.1]? = some p.2 → ∃ ka kc va vc, InstrRow cs p.1 p.2 (.slice ka p.2.key.length kc) (.slice va p.2.vals.length vc) ∧ TermsAt w (.slice ka p.2.key.length kc) p.2.key ∧ ValsAt w (.slice va p.2.vals.length vc) p.2.vals) := by
    refine NewS.all fun p hp => ?_
    obtain ⟨ka, kc, va, vc, h3, h4, _⟩ := h.ent p.1 p.2 hp
    exact ((h4 (decide_eq_true (List.getElem?_eq_some_iff.1 hp).1)).weak fun k h => h.elim).imp fun w hw => ⟨ka, kc, va, vc, h3, hw⟩
  refine (h1.and h2).imp fun w' hw => ?_
  obtain ⟨ho, hc⟩ := hw
  refine ⟨_, c, rfl, .inr ⟨cb, 0, rfl, fun i n hn => ?_⟩⟩
  obtain ⟨ka, kc, va, vc, h3, h4, h5⟩ := hc (i, n) hn
  refine ⟨_, _, fun j u hu => ?_, h4, h5⟩
  have hj := cs_lt hu
  have hi := (List.getElem?_eq_some_iff.1 hn).1
  rw [Nat.zero_add, World.ownsRow.cellAt ho _ (by omega)]
  exact h3 j u hu
theorem cs_one {n : InstrD} {kv vv u : Value} (hk : kv.oneCell' = true) (hv : vv.oneCell' = true) (h : u ∈ n.cs kv vv) : u.oneCell' = true := by
  simp only [InstrD.cs, List.mem_cons, List.not_mem_nil, or_false] at h
  rcases h with rfl | rfl | rfl | rfl | rfl | rfl | rfl | rfl | rfl | rfl | rfl | rfl | rfl <;> first | rfl | exact hk | exact hv
theorem CodeAt.cells {w : World} {v : Value} {L : List InstrD} (X : Nat → Prop) (h : CodeAt w v L) : ∃ cs : List Value, CSl w 13 v L.length cs ∧ (∀ u ∈ cs, u.oneCell' = true) ∧ ∀ (j : Nat) (n : InstrD), L[j]? = some n → EntAt w w X cs j n false := by
  obtain ⟨a, cap, rfl, rfl | ⟨b, off, rfl, hc⟩⟩ := h
  · exact ⟨[], ⟨by simp, a, cap, rfl, (fun _ => rfl), (fun ad _ j u hu => by simp at hu)⟩, by simp, fun j n hn => by simp at hn⟩
  · have hget : ∀ (j : Nat) (u : Value), j < L.length * 13 → w.cell? ⟨b, off + j, none⟩ = some u → ((List.range (L.length * 13)).map fun j => (w.cell? ⟨b, off + j, none⟩).getD undef)[j]? = some u := fun j u hj hu => by
      rw [List.getElem?_map, List.getElem?_range hj]
      simp [hu]
    have hins : ∀ j, j < L.length * 13 → ∃ u, w.cell? ⟨b, off + j, none⟩ = some u ∧ u.oneCell' = true := fun j hj => by
      have hi : j / 13 < L.length := (Nat.div_lt_iff_lt_mul (by decide)).2 hj
      obtain ⟨kv, vv, h1, h2, h3⟩ := hc (j / 13) _ (List.getElem?_eq_getElem hi)
      obtain ⟨ka, kc, rfl⟩ := h2.shape
      obtain ⟨va, vc, rfl⟩ := h3.shape
      have hm : j % 13 < ((L[j / 13]).cs (.slice ka (L[j / 13]).key.length kc) (.slice va (L[j / 13]).vals.length vc)).length := by simp; omega
      refine ⟨_, ?_, cs_one rfl rfl (List.getElem_mem hm)⟩
      have := h1 (j % 13) _ (List.getElem?_eq_getElem hm)
      rwa [show off + j / 13 * 13 + j % 13 = off + j by omega] at this
    refine ⟨(List.range (L.length * 13)).map fun j => (w.cell? ⟨b, off + j, none⟩).getD undef, ⟨by simp, _, cap, rfl, (fun h => by cases h), fun ad hd j u hu => ?_⟩, fun u hu => ?_, fun j n hn => ?_⟩
    · cases hd
      have hj := (List.getElem?_eq_some_iff.1 hu).1
      simp only [List.length_map, List.length_range] at hj
      obtain ⟨x, hx, _⟩ := hins j hj
      rw [hget j x hj hx] at hu
      cases hu
      rw [Addr.add_lit]
      exact hx
    · rw [List.mem_map] at hu
      obtain ⟨j, hj, rfl⟩ := hu
      obtain ⟨x, hx, h1⟩ := hins j (List.mem_range.1 hj)
      rw [hx]
      exact h1
    · have hj := (List.getElem?_eq_some_iff.1 hn).1
      obtain ⟨kv, vv, h1, h2, h3⟩ := hc j n hn
      obtain ⟨ka, kc, rfl⟩ := h2.shape
      obtain ⟨va, vc, rfl⟩ := h3.shape
      refine ⟨ka, kc, va, vc, fun t u hu => ?_, (fun h => by cases h), fun _ => ⟨h2, h3⟩⟩
      have ht := cs_lt hu
      refine hget _ u (by omega) ?_
      rw [← Nat.add_assoc]
      exact h1 t u hu
/-- Within instruction i: its values up to k are of their own. -/
structure Mid (w wr : World) (cb c i : Nat) (n : InstrD) (L : List InstrD) (cs : List Value) (ka va : Option Addr) (kc vc k : Nat) (tvs : List Value) : Prop where
  own : wr.ownsRow w.heap.size 81 13 (.slice (some ⟨cb, 0, none⟩) L.length c) L.length cs
  ent : ∀ (j : Nat) (m : InstrD), L[j]? = some m → j ≠ i → EntAt w wr (fun q => q = cb ∨ (Value.slice va n.vals.length vc).ownBlock = some q) cs j m (decide (j < i))
  row : InstrRow cs i n (.slice ka n.key.length kc) (.slice va n.vals.length vc)
  key : NewS w.heap.size (fun q => q = cb ∨ (Value.slice va n.vals.length vc).ownBlock = some q) wr (fun w => TermsAt w (.slice ka n.key.length kc) n.key)
  vals : VaI w wr (fun q => q = cb ∨ (Value.slice va n.vals.length vc).ownBlock = some q) va vc k n.vals tvs
  ne : (Value.slice va n.vals.length vc).ownBlock ≠ some cb
  fr : Fr w wr Nil
theorem Mid.done {w wr : World} {cb c i : Nat} {n : InstrD} {L : List InstrD} {cs : List Value} {ka va : Option Addr} {kc vc : Nat} {tvs : List Value} (h : Mid w wr cb c i n L cs ka va kc vc n.vals.length tvs) (hn : L[i]? = some n) : ClI w wr (fun q => q = cb) cb c (i + 1) L cs := by
  refine ⟨h.own, fun j m hm => ?_, h.fr⟩
  by_cases e : j = i
  · subst e
    rw [hn] at hm
    cases hm
    refine ⟨ka, kc, va, vc, h.row, fun _ => (h.key.weak fun k hk => .inl hk).and (h.vals.vals (fun k hk => .inl hk) fun k hk e => h.ne (by rw [hk, e])), fun e => ?_⟩
    simp at e
  · obtain ⟨a, b, c', d, h1, h2, h3⟩ := h.ent j m hm e
    refine ⟨a, b, c', d, h1, fun e2 => (h2 ?_).weak fun k hk => .inl hk, fun e2 => h3 ?_⟩
    · have : j < i + 1 := by simpa using e2
      exact decide_eq_true (by omega)
    · have : ¬ j < i + 1 := by simpa using e2
      exact decide_eq_false (by omega)
/-- Both slices of instruction i are put in. -/
theorem ClI.mid {w wr w7 : World} {cb c i : Nat} {n : InstrD} {L : List InstrD} {cs : List Value} {ka0 va0 ka va : Option Addr} {kc0 vc0 kc vc : Nat} {tvs : List Value} (h : ClI w wr (fun q => q = cb) cb c i L cs)
    (hrow : InstrRow cs i n (.slice ka0 n.key.length kc0) (.slice va0 n.vals.length vc0)) (hf : Fr wr w7 Nil)
    (hk : w7.ownsRow wr.heap.size 84 3 (.slice ka n.key.length kc) n.key.length (n.key.flatMap TermD.vals)) (hv : w7.ownsRow wr.heap.size 77 1 (.slice va n.vals.length vc) n.vals.length tvs)
    (hkv : ∀ q, (Value.slice va n.vals.length vc).ownBlock = some q → (Value.slice ka n.key.length kc).ownBlock ≠ some q)
    (ht : ∀ (t : Nat) (x : List TermD), n.vals[t]? = some x → ∃ xa xc, tvs[t]? = some (.slice xa x.length xc) ∧ TermsAt w (.slice xa x.length xc) x) :
    Mid w ((w7.setCell ⟨cb, i * 13 + 11, none⟩ (.slice ka n.key.length kc)).setCell ⟨cb, i * 13 + 12, none⟩ (.slice va n.vals.length vc)) cb c i n L ((cs.set (i * 13 + 11) (.slice ka n.key.length kc)).set (i * 13 + 12) (.slice va n.vals.length vc)) ka va kc vc 0 tvs := by
  have hcb := (World.ownsRow.lt h.own cb rfl)
  have hsz := h.fr.size
  have h7 := hf.own h.own fun _ _ h => h
  have hs1 := World.ownsRow.stored h7 (i * 13 + 11) (.slice ka n.key.length kc)
  have hs2 := World.ownsRow.stored hs1.1 (i * 13 + 12) (.slice va n.vals.length vc)
  have f1 := Fr.store w7 cb (i * 13 + 11) (.slice ka n.key.length kc)
  have f2 := Fr.store (w7.setCell ⟨cb, i * 13 + 11, none⟩ (.slice ka n.key.length kc)) cb (i * 13 + 12) (.slice va n.vals.length vc)
  have f12 : Fr w7 _ (fun q => q = cb) := f1.transS f2
  have hvb : ∀ q, (Value.slice va n.vals.length vc).ownBlock = some q → wr.heap.size ≤ q := fun q hq => (World.ownsRow.lt hv q hq).1
  have hkb : ∀ q, (Value.slice ka n.key.length kc).ownBlock = some q → wr.heap.size ≤ q := fun q hq => (World.ownsRow.lt hk q hq).1
  refine ⟨hs2.1, fun j m hm hj => ?_, (hrow.setK _).setV _, ?_, ⟨(f12.own (own_in hv (by omega)) fun q hq e => by have := hvb q hq; omega), fun t x hx => ?_⟩, fun e => by have := hvb cb e; omega, (h.fr.trans0 hf).trans f12 fun k hk e => by omega⟩
  · obtain ⟨a, b, c', d, h1, h2, h3⟩ := h.ent j m hm
    refine ⟨a, b, c', d, (h1.other hj 11 (by decide) _).other hj 12 (by decide) _, fun e => ?_, h3⟩
    refine (((h2 e).also fun k hk => ?_).fr0 hf).fr f12 fun k _ _ hk e => hk (.inl e)
    exact hk.imp id (hvb k)
  · refine (NewS.terms (own_in hk (by omega)) ?_).fr f12 fun k _ _ hk e => hk (.inl e)
    intro k hk2 hk3
    rcases hk3 with rfl | hk3
    · have := hkb k hk2; omega
    · exact hkv k hk3 hk2
  · obtain ⟨xa, xc, h1, h2⟩ := ht t x hx
    exact ⟨xa, xc, h1, fun h => by omega, fun _ => h2⟩
/-- One value more. -/
theorem Mid.next {w wr w9 : World} {cb c i vb : Nat} {n : InstrD} {L : List InstrD} {cs : List Value} {ka xa : Option Addr} {kc vc k xc : Nat} {tvs : List Value} {x : List TermD} (h : Mid w wr cb c i n L cs ka (some ⟨vb, 0, none⟩) kc vc k tvs) (hx : n.vals[k]? = some x) (hf : Fr wr w9 Nil)
    (ho : w9.ownsRow wr.heap.size 84 3 (.slice xa x.length xc) x.length (x.flatMap TermD.vals)) :
    Mid w (w9.setCell ⟨vb, k, none⟩ (.slice xa x.length xc)) cb c i n L cs ka (some ⟨vb, 0, none⟩) kc vc (k + 1) (tvs.set k (.slice xa x.length xc)) := by
  have hcb := (World.ownsRow.lt h.own cb rfl)
  have hvb := (World.ownsRow.lt h.vals.own vb rfl)
  have hsz := h.fr.size
  have hne : vb ≠ cb := fun e => h.ne (by rw [← e]; rfl)
  have f1 := Fr.store w9 vb k (.slice xa x.length xc)
  have hs := World.ownsRow.stored (hf.own h.vals.own fun _ _ h => h) k (.slice xa x.length xc)
  have hd : ∀ q, w.heap.size ≤ q → q < w9.heap.size → ¬ (q = cb ∨ (Value.slice (some ⟨vb, 0, none⟩) n.vals.length vc).ownBlock = some q) → ¬ q = vb := fun q _ _ hq e => hq (.inr (by rw [e]; rfl))
  refine ⟨f1.own (hf.own h.own fun _ _ h => h) (fun q hq e => by cases hq; exact hne e.symm), fun j m hm hj => (((h.ent j m hm hj).fr hf fun _ _ _ _ h => h).fr f1 hd), h.row, (h.key.fr0 hf).fr f1 hd, ⟨hs.1, fun t y hy => ?_⟩, h.ne, (h.fr.trans0 hf).trans f1 fun q hq e => by omega⟩
  by_cases e : t = k
  · subst e
    rw [hx] at hy
    cases hy
    obtain ⟨_, _, h1, _⟩ := h.vals.ent t x hx
    refine ⟨xa, xc, List.getElem?_set_self (List.getElem?_eq_some_iff.1 h1).1, fun _ => ?_, fun e => by omega⟩
    refine (NewS.terms (own_in ho (by omega)) ?_).fr f1 hd
    intro q hq hq2
    have := (World.ownsRow.lt ho q hq).1
    rcases hq2 with rfl | hq2
    · omega
    · have hq3 : vb = q := by simpa [Value.ownBlock] using hq2
      omega
  · obtain ⟨ya, yc, h1, h2, h3⟩ := h.vals.ent t y hy
    refine ⟨ya, yc, by rw [List.getElem?_set_ne (fun h => e h.symm)]; exact h1, fun ht => ((h2 (by omega)).fr0 hf).fr f1 hd, fun ht => h3 (by omega)⟩
theorem csl_fr0 {w w' : World} {size n : Nat} {v : Value} {cs : List Value} (h : CSl w size v n cs) (hf : Fr w w' Nil) : CSl w' size v n cs := by
  obtain ⟨h1, a, cap, rfl, h2, h3⟩ := h
  exact ⟨h1, a, cap, rfl, h2, fun ad he j u hu => hf.cell (h3 ad he j u hu) fun h => h⟩
def CodeRet (L : List InstrD) (w : World) (e : Ending) (w' : World) : Prop := ∃ a c, e = .returned (.slice a L.length c) ∧ NewS w.heap.size (fun _ => False) w' (fun w => CodeAt w (.slice a L.length c) L) ∧ Fr w w' Nil
set_option maxRecDepth 100000 in
set_option maxHeartbeats 8000000 in
theorem iclone_any (lv : Value) (L : List InstrD) (w : World) (h : CodeAt w lv L) (hf : FewC L) (h0 : 0 < L.length) :
    Calls Tryz.prog 39 #[lv] w (CodeRet L w) := by
  obtain ⟨cs, hcs, h1, he⟩ := h.cells (fun q => q = w.heap.size)
  obtain ⟨la, lc, rfl⟩ := h.shape
  have HFEW := Lib.hid hf
  have hLl := hf.1
  have HCS := Lib.hid hcs
  have H1 := Lib.hid h1
  have HENT := Lib.hid he
  clear h hf hcs h1 he
  go_enter Tryz.func39, Tryz.ntmps39
  go_wp2_with fail
  refine (cloneI_any _ L.length cs _ HCS.out H1.out hLl).mono ?_
  rintro e w1 ⟨a1, c1, rfl, ho, hf⟩
  obtain ⟨cb, c, hcb, _⟩ : ∃ g cap, Value.slice a1 L.length c1 = .slice (some ⟨g, 0, none⟩) L.length cap ∧ True := by
    rcases ho.2 with ⟨_, h2⟩ | ⟨g, cap, cur, hv, _⟩
    · omega
    · exact ⟨g, cap, hv, trivial⟩
  simp only [Value.slice.injEq, true_and] at hcb
  obtain ⟨rfl, rfl⟩ := hcb
  have HI0 : Hid (ClI w w1 (fun q => q = cb) cb c1 0 L cs) := Lib.hid ⟨ho, fun j n hn => by
    obtain ⟨ka, kc, va, vc, h2, _, h4⟩ := HENT.out j n hn
    exact ⟨ka, kc, va, vc, h2, fun e => by simp at e, fun _ => h4 rfl⟩, hf⟩
  clear ho hf
  go_wp2_with fail
  go_loopw [9] (fun vi wr => ∃ (i : Nat) (cs : List Value), i ≤ L.length ∧ vi = .int .i64 i ∧ ClI w wr (fun q => q = cb) cb c1 i L cs) (fun vi _ => L.length - (intOf vi).toNat)
  case atStart => exact ⟨0, cs, by omega, rfl, HI0.out⟩
  case round =>
    clear HI0 HCS H1 HENT
    obtain ⟨i, cs, hi, rfl, hcl⟩ := hrel
    have HI := Lib.hid hcl
    obtain ⟨wo, rfl⟩ : ∃ wo : World, wo = wr := ⟨_, rfl⟩
    clear hcl
    by_cases hlt : i < L.length
    · have hg := List.getElem?_eq_getElem hlt
      generalize L[i] = n at hg
      obtain ⟨ka, kc, va, vc, hrow, _, hor⟩ := HI.out.ent i n hg
      obtain ⟨hkt, hvt⟩ := hor (by simp)
      have HROW := Lib.hid hrow
      have HKT := Lib.hid hkt
      have HVT := Lib.hid hvt
      have HG := Lib.hid hg
      have HNF := Lib.hid (HFEW.out.2 n (List.mem_of_getElem? hg))
      have p11 := (World.ownsRow.cellAt HI.out.own (i * 13 + 11) (by omega)).trans (hrow 11 _ rfl)
      have p12 := (World.ownsRow.cellAt HI.out.own (i * 13 + 12) (by omega)).trans (hrow 12 _ rfl)
      have P11 := Lib.hid p11
      have P12 := Lib.hid p12
      have HT1 : Hid (∀ l : List TermD, ∀ u ∈ l.flatMap TermD.vals, u.oneCell' = true) := fun l u hu => by
        rw [List.mem_flatMap] at hu
        obtain ⟨t, _, hu⟩ := hu
        simp only [TermD.vals, List.mem_cons, List.not_mem_nil, or_false] at hu
        rcases hu with rfl | rfl | rfl <;> rfl
      obtain ⟨tvs0, hcv, hcv1, htv⟩ := HVT.out.cells
      have HCV := Lib.hid (csl_fr0 hcv HI.out.fr)
      have HCV1 := Lib.hid hcv1
      have HTV := Lib.hid htv
      clear hcv hcv1 htv
      have hii : (i : Int) < (L.length : Int) := by omega
      clear hrow hkt hvt hg hor p11 p12
      go_wp2_with fail
      refine wp_region_sink 21 (fun _ => True) (by kernel_rfl) ?_
      have hSa : (fun _ : World => True) wo.drew := trivial
      refine wpAnyS_take (i := 0) (v := ?_) rfl (by kernel_rfl) (fun _ _ _ h => h) (by rfl) hSa ?_ ?_
      rotate_left
      · intro w' hS'
        (try dsimp only at hS')
        go_simp <;> with_reducible rfl
      try simp only [Act.put, List.setIfInBounds_toArray, List.set_cons_zero, List.set_cons_succ]
      refine wpAnyS_take (i := 1) (v := ?_) rfl (by kernel_rfl) (fun _ _ _ h => h) (by rfl) hSa ?_ ?_
      rotate_left
      · intro w' hS'
        (try dsimp only at hS')
        go_simp <;> with_reducible rfl
      try simp only [Act.put, List.setIfInBounds_toArray, List.set_cons_zero, List.set_cons_succ]
      refine wpAnyS_take (i := 2) (v := ?_) rfl (by kernel_rfl) (fun _ _ _ h => h) (by rfl) hSa ?_ ?_
      rotate_left
      · intro w' hS'
        (try dsimp only at hS')
        go_simp <;> with_reducible rfl
      try simp only [Act.put, List.setIfInBounds_toArray, List.set_cons_zero, List.set_cons_succ]
      refine wpAnyS_take (i := 3) (v := ?_) rfl (by kernel_rfl) (fun _ _ _ h => h) (by rfl) hSa ?_ ?_
      rotate_left
      · intro w' hS'
        (try dsimp only at hS')
        go_simp <;> with_reducible rfl
      try simp only [Act.put, List.setIfInBounds_toArray, List.set_cons_zero, List.set_cons_succ]
      refine wpAnyS_take (i := 4) (v := ?_) rfl (by kernel_rfl) (fun _ _ _ h => h) (by rfl) hSa ?_ ?_
      rotate_left
      · intro w' hS'
        (try dsimp only at hS')
        go_simp <;> with_reducible rfl
      try simp only [Act.put, List.setIfInBounds_toArray, List.set_cons_zero, List.set_cons_succ]
      refine wpAnyS_take (i := 5) (v := ?_) rfl (by kernel_rfl) (fun _ _ _ h => h) (by rfl) hSa ?_ ?_
      rotate_left
      · intro w' hS'
        (try dsimp only at hS')
        go_simp <;> with_reducible rfl
      try simp only [Act.put, List.setIfInBounds_toArray, List.set_cons_zero, List.set_cons_succ]
      refine wpAnyS_take (i := 6) (v := ?_) rfl (by kernel_rfl) (fun _ _ _ h => h) (by rfl) hSa ?_ ?_
      rotate_left
      · intro w' hS'
        (try dsimp only at hS')
        go_simp <;> with_reducible rfl
      try simp only [Act.put, List.setIfInBounds_toArray, List.set_cons_zero, List.set_cons_succ]
      refine wpAnyS_take (i := 7) (v := ?_) rfl (by kernel_rfl) (fun _ _ _ h => h) (by rfl) hSa ?_ ?_
      rotate_left
      · intro w' hS'
        (try dsimp only at hS')
        go_simp <;> with_reducible rfl
      try simp only [Act.put, List.setIfInBounds_toArray, List.set_cons_zero, List.set_cons_succ]
      refine wpAnyS_take (i := 10) (v := ?_) rfl (by kernel_rfl) (fun _ _ _ h => h) (by rfl) hSa ?_ ?_
      rotate_left
      · intro w' hS'
        (try dsimp only at hS')
        go_simp <;> with_reducible rfl
      try simp only [Act.put, List.setIfInBounds_toArray, List.set_cons_zero, List.set_cons_succ]
      refine wpAnyS_take (i := 11) (v := ?_) rfl (by kernel_rfl) (fun _ _ _ h => h) (by rfl) hSa ?_ ?_
      rotate_left
      · intro w' hS'
        (try dsimp only at hS')
        go_simp <;> with_reducible rfl
      try simp only [Act.put, List.setIfInBounds_toArray, List.set_cons_zero, List.set_cons_succ]
      refine wpAnyS_take (i := 12) (v := ?_) rfl (by kernel_rfl) (fun _ _ _ h => h) (by rfl) hSa ?_ ?_
      rotate_left
      · intro w' hS'
        (try dsimp only at hS')
        go_simp <;> with_reducible rfl
      try simp only [Act.put, List.setIfInBounds_toArray, List.set_cons_zero, List.set_cons_succ]
      refine wpAnyS_take (i := 13) (v := ?_) rfl (by kernel_rfl) (fun _ _ _ h => h) (by rfl) hSa ?_ ?_
      rotate_left
      · intro w' hS'
        (try dsimp only at hS')
        go_simp <;> with_reducible rfl
      try simp only [Act.put, List.setIfInBounds_toArray, List.set_cons_zero, List.set_cons_succ]
      refine wpAnyS_two (i := 8) (j := 14) rfl rfl (by kernel_rfl) (by decide) (by decide) (by rfl) (by rfl) (fun K hK => ?_) (fun K hK => ?_)
      · have c0 := (Fr.refl wo Nil).drew.cell P11.out fun h => h
        go_simp
        refine hK.out _ _ trivial ?_
        clear hK K c0
        try simp only [Act.put, List.setIfInBounds_toArray, List.set_cons_zero, List.set_cons_succ]
        refine wpAnyS_two (i := 9) (j := 14) rfl rfl (by kernel_rfl) (by decide) (by decide) (by rfl) (by rfl) (fun K hK => ?_) (fun K hK => ?_)
        · go_simp
          refine (cloneT_any _ n.key.length _ _ (CSl.of_sl ((HKT.out.fr0 HI.out.fr).fr0 ((Fr.refl wo Nil).drew))) (HT1.out _) HNF.out.1).mono ?_
          rintro e w5 ⟨ka2, kc2, rfl, ho5, hf5⟩
          refine hK.out _ _ trivial ?_
          clear hK K
          try simp only [Act.put, List.setIfInBounds_toArray, List.set_cons_zero, List.set_cons_succ]
          have HF5 : Hid (Fr wo w5 Nil) := Lib.hid ((Fr.refl wo Nil).drew.trans0 hf5)
          have HF5s : Hid (wo.heap.size ≤ w5.heap.size) := HF5.out.size
          refine wpAnyS_one (i := 14) rfl (by kernel_rfl) (by decide) (by rfl) fun K hK => ?_
          have c0 := HF5.out.cell P12.out fun h => h
          go_simp
          refine hK.out _ _ trivial ?_
          clear hK K c0
          try simp only [Act.put, List.setIfInBounds_toArray, List.set_cons_zero, List.set_cons_succ]
          refine wpAnyS_one (i := 15) rfl (by kernel_rfl) (by decide) (by rfl) fun K hK => ?_
          go_simp
          refine (cloneV_any _ n.vals.length tvs0 _ (csl_fr0 HCV.out HF5.out) HCV1.out HNF.out.2.1).mono ?_
          rintro e w7 ⟨va2, vc2, rfl, ho7, hf7⟩
          refine hK.out _ _ trivial ?_
          clear hK K
          try simp only [Act.put, List.setIfInBounds_toArray, List.set_cons_zero, List.set_cons_succ]
          have hkn : ∀ q, (Value.slice va2 n.vals.length vc2).ownBlock = some q → (Value.slice ka2 n.key.length kc2).ownBlock ≠ some q := fun q h1 h2 => by
            have := (World.ownsRow.lt ho7 q h1).1
            have := (World.ownsRow.lt ho5 q h2).2
            omega
          have hs5 := HF5s.out
          have HM := Lib.hid (HI.out.mid HROW.out (HF5.out.trans0 hf7) (own_in (hf7.own ho5 fun _ _ h => h) (Nat.le_refl _)) (own_in ho7 (by omega)) hkn HTV.out)
          have z1 := World.ownsRow.frozenAt ((HF5.out.trans0 hf7).own HI.out.own fun _ _ h => h) (i * 13 + 11)
          have z2 := fun u => World.ownsRow.frozenAt (World.ownsRow.stored ((HF5.out.trans0 hf7).own HI.out.own fun _ _ h => h) (i * 13 + 11) u).1 (i * 13 + 12)
          have z3 := (HF5.out.trans0 hf7).cell P11.out fun h => h
          have z4 := fun u => (World.ownsRow.cellAt (World.ownsRow.stored ((HF5.out.trans0 hf7).own HI.out.own fun _ _ h => h) (i * 13 + 11) u).1 (i * 13 + 12) (by omega)).trans ((HROW.out.setK u) 12 _ rfl)
          clear ho5 ho7 hf5 hf7 hkn hs5 HF5 HF5s
          refine wpAnyS_take (i := 16) (v := ?_) rfl (by kernel_rfl) (fun _ _ _ h => h) (by rfl) hSa ?_ ?_
          rotate_left
          · intro w' hS'
            (try dsimp only at hS')
            go_simp <;> with_reducible rfl
          try simp only [Act.put, List.setIfInBounds_toArray, List.set_cons_zero, List.set_cons_succ]
          refine wpAnyS_take (i := 17) (v := ?_) rfl (by kernel_rfl) (fun _ _ _ h => h) (by rfl) hSa ?_ ?_
          rotate_left
          · intro w' hS'
            (try dsimp only at hS')
            go_simp <;> with_reducible rfl
          try simp only [Act.put, List.setIfInBounds_toArray, List.set_cons_zero, List.set_cons_succ]
          refine wpAnyS_one (i := 18) rfl (by kernel_rfl) (by decide) (by rfl) fun K hK => ?_
          go_simp
          refine hK.out _ _ trivial ?_
          clear hK K
          try simp only [Act.put, List.setIfInBounds_toArray, List.set_cons_zero, List.set_cons_succ]
          refine wpAnyS_take (i := 19) (v := ?_) rfl (by kernel_rfl) (fun _ _ _ h => h) (by rfl) hSa ?_ ?_
          rotate_left
          · intro w' hS'
            (try dsimp only at hS')
            go_simp <;> with_reducible rfl
          try simp only [Act.put, List.setIfInBounds_toArray, List.set_cons_zero, List.set_cons_succ]
          refine wpAnyS_take (i := 20) (v := ?_) rfl (by kernel_rfl) (fun _ _ _ h => h) (by rfl) hSa ?_ ?_
          rotate_left
          · intro w' hS'
            (try dsimp only at hS')
            go_simp <;> with_reducible rfl
          try simp only [Act.put, List.setIfInBounds_toArray, List.set_cons_zero, List.set_cons_succ]
          refine wpAnyS_last (i := 21) rfl (by kernel_rfl) (by decide) (by kernel_rfl) (by rfl) fun K hK => ?_
          go_simp
          refine hK.out _ _ ?_
          clear hK K z1 z2 z3 z4 hSa
          obtain ⟨cs2, hcs2⟩ : ∃ cs2, cs2 = (cs.set (i * 13 + 11) (Value.slice ka2 n.key.length kc2)).set (i * 13 + 12) (.slice va2 n.vals.length vc2) := ⟨_, rfl⟩
          rw [← hcs2] at HM
          clear hcs2
          obtain ⟨w8, hw8⟩ : ∃ w8, w8 = (w7.setCell ⟨cb, i * 13 + 11, none⟩ (.slice ka2 n.key.length kc2)).setCell ⟨cb, i * 13 + 12, none⟩ (.slice va2 n.vals.length vc2) := ⟨_, rfl⟩
          rw [← hw8] at HM ⊢
          clear hw8
          have hvl := HNF.out.2.1
          have y12 := (World.ownsRow.cellAt HM.out.own (i * 13 + 12) (by omega)).trans (HM.out.row 12 _ rfl)
          go_wp2_with fail
          go_loopw [38] (fun vk wr => ∃ (k : Nat) (tvs : List Value), k ≤ n.vals.length ∧ vk = .int .i64 k ∧ Mid w wr cb c1 i n L cs2 ka2 va2 kc2 vc2 k tvs) (fun vk _ => n.vals.length - (intOf vk).toNat)
          case atStart => exact ⟨0, tvs0, by omega, rfl, HM.out⟩
          case round =>
            clear HM y12
            obtain ⟨k, tvs, hk, rfl, hm⟩ := hrel
            have HM := Lib.hid hm
            obtain ⟨wi, rfl⟩ : ∃ wi : World, wi = wr := ⟨_, rfl⟩
            clear hm
            by_cases hlk : k < n.vals.length
            · have hgx := List.getElem?_eq_getElem hlk
              have hxl := HNF.out.2.2 _ (List.mem_of_getElem? hgx)
              generalize n.vals[k] = x at hgx hxl
              obtain ⟨vb, hvb⟩ : ∃ vb, va2 = some ⟨vb, 0, none⟩ := by
                rcases HM.out.vals.own.2 with ⟨_, h2⟩ | ⟨g, cap, cur, hv, _⟩
                · omega
                · simp only [Value.slice.injEq] at hv
                  exact ⟨g, hv.1⟩
              subst hvb
              obtain ⟨xa, xc, hx1, _, hx2⟩ := HM.out.vals.ent k x hgx
              have q12 := (World.ownsRow.cellAt HM.out.own (i * 13 + 12) (by omega)).trans (HM.out.row 12 _ rfl)
              have qv := (World.ownsRow.cellAt HM.out.vals.own k (by omega)).trans hx1
              have HXT := Lib.hid ((hx2 (Nat.le_refl _)).fr0 HM.out.fr)
              have HGX := Lib.hid hgx
              have j12 := KeptF.cell q12
              have jv := KeptF.cell qv
              have hkk : (k : Int) < (n.vals.length : Int) := by omega
              clear hgx hx1 hx2 q12 qv
              go_wp2_with fail
              refine wp_region_sink 16 (KeptF wi) (by kernel_rfl) ?_
              have hSb : KeptF wi wi.drew := KeptF.start _
              refine wpAnyS_take (i := 0) (v := ?_) rfl (by kernel_rfl) (fun _ _ _ h => h) (by rfl) hSb ?_ ?_
              rotate_left
              · intro w' hS'
                (try dsimp only at hS')
                go_simp <;> with_reducible rfl
              try simp only [Act.put, List.setIfInBounds_toArray, List.set_cons_zero, List.set_cons_succ]
              refine wpAnyS_take (i := 1) (v := ?_) rfl (by kernel_rfl) (fun _ _ _ h => h) (by rfl) hSb ?_ ?_
              rotate_left
              · intro w' hS'
                (try dsimp only at hS')
                go_simp <;> with_reducible rfl
              try simp only [Act.put, List.setIfInBounds_toArray, List.set_cons_zero, List.set_cons_succ]
              refine wpAnyS_take (i := 2) (v := ?_) rfl (by kernel_rfl) (fun _ _ _ h => h) (by rfl) hSb ?_ ?_
              rotate_left
              · intro w' hS'
                (try dsimp only at hS')
                go_simp <;> with_reducible rfl
              try simp only [Act.put, List.setIfInBounds_toArray, List.set_cons_zero, List.set_cons_succ]
              refine wpAnyS_take (i := 3) (v := ?_) rfl (by kernel_rfl) (fun _ _ _ h => h) (by rfl) hSb ?_ ?_
              rotate_left
              · intro w' hS'
                (try dsimp only at hS')
                go_simp <;> with_reducible rfl
              try simp only [Act.put, List.setIfInBounds_toArray, List.set_cons_zero, List.set_cons_succ]
              refine wpAnyS_take (i := 4) (v := ?_) rfl (by kernel_rfl) (fun _ _ _ h => h) (by rfl) hSb ?_ ?_
              rotate_left
              · intro w' hS'
                have cj12 := j12 _ hS'
                go_simp <;> with_reducible rfl
              try simp only [Act.put, List.setIfInBounds_toArray, List.set_cons_zero, List.set_cons_succ]
              refine wpAnyS_take (i := 5) (v := ?_) rfl (by kernel_rfl) (fun _ _ _ h => h) (by rfl) hSb ?_ ?_
              rotate_left
              · intro w' hS'
                (try dsimp only at hS')
                go_simp <;> with_reducible rfl
              try simp only [Act.put, List.setIfInBounds_toArray, List.set_cons_zero, List.set_cons_succ]
              refine wpAnyS_take (i := 6) (v := ?_) rfl (by kernel_rfl) (fun _ _ _ h => h) (by rfl) hSb ?_ ?_
              rotate_left
              · intro w' hS'
                (try dsimp only at hS')
                go_simp <;> with_reducible rfl
              try simp only [Act.put, List.setIfInBounds_toArray, List.set_cons_zero, List.set_cons_succ]
              refine wpAnyS_take (i := 7) (v := ?_) rfl (by kernel_rfl) (fun _ _ _ h => h) (by rfl) hSb ?_ ?_
              rotate_left
              · intro w' hS'
                (try dsimp only at hS')
                go_simp <;> with_reducible rfl
              try simp only [Act.put, List.setIfInBounds_toArray, List.set_cons_zero, List.set_cons_succ]
              refine wpAnyS_take (i := 8) (v := ?_) rfl (by kernel_rfl) (fun _ _ _ h => h) (by rfl) hSb ?_ ?_
              rotate_left
              · intro w' hS'
                (try dsimp only at hS')
                go_simp <;> with_reducible rfl
              try simp only [Act.put, List.setIfInBounds_toArray, List.set_cons_zero, List.set_cons_succ]
              refine wpAnyS_take (i := 9) (v := ?_) rfl (by kernel_rfl) (fun _ _ _ h => h) (by rfl) hSb ?_ ?_
              rotate_left
              · intro w' hS'
                (try dsimp only at hS')
                go_simp <;> with_reducible rfl
              try simp only [Act.put, List.setIfInBounds_toArray, List.set_cons_zero, List.set_cons_succ]
              refine wpAnyS_take (i := 10) (v := ?_) rfl (by kernel_rfl) (fun _ _ _ h => h) (by rfl) hSb ?_ ?_
              rotate_left
              · intro w' hS'
                have cj12 := j12 _ hS'
                go_simp <;> with_reducible rfl
              try simp only [Act.put, List.setIfInBounds_toArray, List.set_cons_zero, List.set_cons_succ]
              refine wpAnyS_take (i := 11) (v := ?_) rfl (by kernel_rfl) (fun _ _ _ h => h) (by rfl) hSb ?_ ?_
              rotate_left
              · intro w' hS'
                (try dsimp only at hS')
                go_simp <;> with_reducible rfl
              try simp only [Act.put, List.setIfInBounds_toArray, List.set_cons_zero, List.set_cons_succ]
              refine wpAnyS_take (i := 12) (v := ?_) rfl (by kernel_rfl) (fun _ _ _ h => h) (by rfl) hSb ?_ ?_
              rotate_left
              · intro w' hS'
                (try dsimp only at hS')
                go_simp <;> with_reducible rfl
              try simp only [Act.put, List.setIfInBounds_toArray, List.set_cons_zero, List.set_cons_succ]
              refine wpAnyS_take (i := 13) (v := ?_) rfl (by kernel_rfl) (fun _ _ _ h => h) (by rfl) hSb ?_ ?_
              rotate_left
              · intro w' hS'
                have cjv := jv _ hS'
                go_simp <;> with_reducible rfl
              try simp only [Act.put, List.setIfInBounds_toArray, List.set_cons_zero, List.set_cons_succ]
              refine wpAnyS_one (i := 14) rfl (by kernel_rfl) (by decide) (by rfl) fun K hK => ?_
              go_simp
              refine (cloneT_any _ x.length _ _ (CSl.of_sl (HXT.out.fr0 hSb.fr)) (HT1.out _) hxl).mono ?_
              rintro e w9 ⟨xa2, xc2, rfl, ho9, hf9⟩
              have hSc := KeptF.next hSb hf9
              refine hK.out _ _ hSc ?_
              clear hK K
              try simp only [Act.put, List.setIfInBounds_toArray, List.set_cons_zero, List.set_cons_succ]
              refine wpAnyS_take (i := 15) (v := ?_) rfl (by kernel_rfl) (fun _ _ _ h => h) (by rfl) hSc ?_ ?_
              rotate_left
              · intro w' hS'
                (try dsimp only at hS')
                go_simp <;> with_reducible rfl
              try simp only [Act.put, List.setIfInBounds_toArray, List.set_cons_zero, List.set_cons_succ]
              have fz := World.ownsRow.frozenAt ((KeptF.fr hSc).own HM.out.vals.own fun _ _ h => h) k
              have HN := Lib.hid (HM.out.next HGX.out (KeptF.fr hSc) ho9)
              refine wpAnyS_last (i := 16) rfl (by kernel_rfl) (by decide) (by kernel_rfl) (by rfl) fun K hK => ?_
              go_simp
              refine hK.out _ _ ?_
              clear hK K hSb hSc fz j12 jv ho9 hf9
              go_wp2_with fail
              go_roundw
              case rel => exact ⟨k + 1, _, by omega, by go_num, HN.out⟩
              case measure => simp [intOf]; omega
            · obtain rfl : k = n.vals.length := by omega
              have hkk : ¬ (n.vals.length : Int) < (n.vals.length : Int) := by omega
              have HD := Lib.hid (HM.out.done HG.out)
              clear hlk hk HM
              go_wp2_with fail
              go_roundw
              case rel => exact ⟨i + 1, cs2, by omega, by go_num, HD.out⟩
              case measure => simp [intOf]; omega
        · have c0 := (Fr.refl wo Nil).drew.cell P12.out fun h => h
          go_simp
          refine hK.out _ _ trivial ?_
          clear hK K c0
          try simp only [Act.put, List.setIfInBounds_toArray, List.set_cons_zero, List.set_cons_succ]
          refine wpAnyS_one (i := 9) rfl (by kernel_rfl) (by decide) (by rfl) fun K hK => ?_
          go_simp
          refine (cloneT_any _ n.key.length _ _ (CSl.of_sl ((HKT.out.fr0 HI.out.fr).fr0 ((Fr.refl wo Nil).drew))) (HT1.out _) HNF.out.1).mono ?_
          rintro e w5 ⟨ka2, kc2, rfl, ho5, hf5⟩
          refine hK.out _ _ trivial ?_
          clear hK K
          try simp only [Act.put, List.setIfInBounds_toArray, List.set_cons_zero, List.set_cons_succ]
          have HF5 : Hid (Fr wo w5 Nil) := Lib.hid ((Fr.refl wo Nil).drew.trans0 hf5)
          have HF5s : Hid (wo.heap.size ≤ w5.heap.size) := HF5.out.size
          refine wpAnyS_one (i := 15) rfl (by kernel_rfl) (by decide) (by rfl) fun K hK => ?_
          go_simp
          refine (cloneV_any _ n.vals.length tvs0 _ (csl_fr0 HCV.out HF5.out) HCV1.out HNF.out.2.1).mono ?_
          rintro e w7 ⟨va2, vc2, rfl, ho7, hf7⟩
          refine hK.out _ _ trivial ?_
          clear hK K
          try simp only [Act.put, List.setIfInBounds_toArray, List.set_cons_zero, List.set_cons_succ]
          have hkn : ∀ q, (Value.slice va2 n.vals.length vc2).ownBlock = some q → (Value.slice ka2 n.key.length kc2).ownBlock ≠ some q := fun q h1 h2 => by
            have := (World.ownsRow.lt ho7 q h1).1
            have := (World.ownsRow.lt ho5 q h2).2
            omega
          have hs5 := HF5s.out
          have HM := Lib.hid (HI.out.mid HROW.out (HF5.out.trans0 hf7) (own_in (hf7.own ho5 fun _ _ h => h) (Nat.le_refl _)) (own_in ho7 (by omega)) hkn HTV.out)
          have z1 := World.ownsRow.frozenAt ((HF5.out.trans0 hf7).own HI.out.own fun _ _ h => h) (i * 13 + 11)
          have z2 := fun u => World.ownsRow.frozenAt (World.ownsRow.stored ((HF5.out.trans0 hf7).own HI.out.own fun _ _ h => h) (i * 13 + 11) u).1 (i * 13 + 12)
          have z3 := (HF5.out.trans0 hf7).cell P11.out fun h => h
          have z4 := fun u => (World.ownsRow.cellAt (World.ownsRow.stored ((HF5.out.trans0 hf7).own HI.out.own fun _ _ h => h) (i * 13 + 11) u).1 (i * 13 + 12) (by omega)).trans ((HROW.out.setK u) 12 _ rfl)
          clear ho5 ho7 hf5 hf7 hkn hs5 HF5 HF5s
          refine wpAnyS_take (i := 16) (v := ?_) rfl (by kernel_rfl) (fun _ _ _ h => h) (by rfl) hSa ?_ ?_
          rotate_left
          · intro w' hS'
            (try dsimp only at hS')
            go_simp <;> with_reducible rfl
          try simp only [Act.put, List.setIfInBounds_toArray, List.set_cons_zero, List.set_cons_succ]
          refine wpAnyS_take (i := 17) (v := ?_) rfl (by kernel_rfl) (fun _ _ _ h => h) (by rfl) hSa ?_ ?_
          rotate_left
          · intro w' hS'
            (try dsimp only at hS')
            go_simp <;> with_reducible rfl
          try simp only [Act.put, List.setIfInBounds_toArray, List.set_cons_zero, List.set_cons_succ]
          refine wpAnyS_one (i := 18) rfl (by kernel_rfl) (by decide) (by rfl) fun K hK => ?_
          go_simp
          refine hK.out _ _ trivial ?_
          clear hK K
          try simp only [Act.put, List.setIfInBounds_toArray, List.set_cons_zero, List.set_cons_succ]
          refine wpAnyS_take (i := 19) (v := ?_) rfl (by kernel_rfl) (fun _ _ _ h => h) (by rfl) hSa ?_ ?_
          rotate_left
          · intro w' hS'
            (try dsimp only at hS')
            go_simp <;> with_reducible rfl
          try simp only [Act.put, List.setIfInBounds_toArray, List.set_cons_zero, List.set_cons_succ]
          refine wpAnyS_take (i := 20) (v := ?_) rfl (by kernel_rfl) (fun _ _ _ h => h) (by rfl) hSa ?_ ?_
          rotate_left
          · intro w' hS'
            (try dsimp only at hS')
            go_simp <;> with_reducible rfl
          try simp only [Act.put, List.setIfInBounds_toArray, List.set_cons_zero, List.set_cons_succ]
          refine wpAnyS_last (i := 21) rfl (by kernel_rfl) (by decide) (by kernel_rfl) (by rfl) fun K hK => ?_
          go_simp
          refine hK.out _ _ ?_
          clear hK K z1 z2 z3 z4 hSa
          obtain ⟨cs2, hcs2⟩ : ∃ cs2, cs2 = (cs.set (i * 13 + 11) (Value.slice ka2 n.key.length kc2)).set (i * 13 + 12) (.slice va2 n.vals.length vc2) := ⟨_, rfl⟩
          rw [← hcs2] at HM
          clear hcs2
          obtain ⟨w8, hw8⟩ : ∃ w8, w8 = (w7.setCell ⟨cb, i * 13 + 11, none⟩ (.slice ka2 n.key.length kc2)).setCell ⟨cb, i * 13 + 12, none⟩ (.slice va2 n.vals.length vc2) := ⟨_, rfl⟩
          rw [← hw8] at HM ⊢
          clear hw8
          have hvl := HNF.out.2.1
          have y12 := (World.ownsRow.cellAt HM.out.own (i * 13 + 12) (by omega)).trans (HM.out.row 12 _ rfl)
          go_wp2_with fail
          go_loopw [38] (fun vk wr => ∃ (k : Nat) (tvs : List Value), k ≤ n.vals.length ∧ vk = .int .i64 k ∧ Mid w wr cb c1 i n L cs2 ka2 va2 kc2 vc2 k tvs) (fun vk _ => n.vals.length - (intOf vk).toNat)
          case atStart => exact ⟨0, tvs0, by omega, rfl, HM.out⟩
          case round =>
            clear HM y12
            obtain ⟨k, tvs, hk, rfl, hm⟩ := hrel
            have HM := Lib.hid hm
            obtain ⟨wi, rfl⟩ : ∃ wi : World, wi = wr := ⟨_, rfl⟩
            clear hm
            by_cases hlk : k < n.vals.length
            · have hgx := List.getElem?_eq_getElem hlk
              have hxl := HNF.out.2.2 _ (List.mem_of_getElem? hgx)
              generalize n.vals[k] = x at hgx hxl
              obtain ⟨vb, hvb⟩ : ∃ vb, va2 = some ⟨vb, 0, none⟩ := by
                rcases HM.out.vals.own.2 with ⟨_, h2⟩ | ⟨g, cap, cur, hv, _⟩
                · omega
                · simp only [Value.slice.injEq] at hv
                  exact ⟨g, hv.1⟩
              subst hvb
              obtain ⟨xa, xc, hx1, _, hx2⟩ := HM.out.vals.ent k x hgx
              have q12 := (World.ownsRow.cellAt HM.out.own (i * 13 + 12) (by omega)).trans (HM.out.row 12 _ rfl)
              have qv := (World.ownsRow.cellAt HM.out.vals.own k (by omega)).trans hx1
              have HXT := Lib.hid ((hx2 (Nat.le_refl _)).fr0 HM.out.fr)
              have HGX := Lib.hid hgx
              have j12 := KeptF.cell q12
              have jv := KeptF.cell qv
              have hkk : (k : Int) < (n.vals.length : Int) := by omega
              clear hgx hx1 hx2 q12 qv
              go_wp2_with fail
              refine wp_region_sink 16 (KeptF wi) (by kernel_rfl) ?_
              have hSb : KeptF wi wi.drew := KeptF.start _
              refine wpAnyS_take (i := 0) (v := ?_) rfl (by kernel_rfl) (fun _ _ _ h => h) (by rfl) hSb ?_ ?_
              rotate_left
              · intro w' hS'
                (try dsimp only at hS')
                go_simp <;> with_reducible rfl
              try simp only [Act.put, List.setIfInBounds_toArray, List.set_cons_zero, List.set_cons_succ]
              refine wpAnyS_take (i := 1) (v := ?_) rfl (by kernel_rfl) (fun _ _ _ h => h) (by rfl) hSb ?_ ?_
              rotate_left
              · intro w' hS'
                (try dsimp only at hS')
                go_simp <;> with_reducible rfl
              try simp only [Act.put, List.setIfInBounds_toArray, List.set_cons_zero, List.set_cons_succ]
              refine wpAnyS_take (i := 2) (v := ?_) rfl (by kernel_rfl) (fun _ _ _ h => h) (by rfl) hSb ?_ ?_
              rotate_left
              · intro w' hS'
                (try dsimp only at hS')
                go_simp <;> with_reducible rfl
              try simp only [Act.put, List.setIfInBounds_toArray, List.set_cons_zero, List.set_cons_succ]
              refine wpAnyS_take (i := 3) (v := ?_) rfl (by kernel_rfl) (fun _ _ _ h => h) (by rfl) hSb ?_ ?_
              rotate_left
              · intro w' hS'
                (try dsimp only at hS')
                go_simp <;> with_reducible rfl
              try simp only [Act.put, List.setIfInBounds_toArray, List.set_cons_zero, List.set_cons_succ]
              refine wpAnyS_take (i := 4) (v := ?_) rfl (by kernel_rfl) (fun _ _ _ h => h) (by rfl) hSb ?_ ?_
              rotate_left
              · intro w' hS'
                have cj12 := j12 _ hS'
                go_simp <;> with_reducible rfl
              try simp only [Act.put, List.setIfInBounds_toArray, List.set_cons_zero, List.set_cons_succ]
              refine wpAnyS_take (i := 5) (v := ?_) rfl (by kernel_rfl) (fun _ _ _ h => h) (by rfl) hSb ?_ ?_
              rotate_left
              · intro w' hS'
                (try dsimp only at hS')
                go_simp <;> with_reducible rfl
              try simp only [Act.put, List.setIfInBounds_toArray, List.set_cons_zero, List.set_cons_succ]
              refine wpAnyS_take (i := 6) (v := ?_) rfl (by kernel_rfl) (fun _ _ _ h => h) (by rfl) hSb ?_ ?_
              rotate_left
              · intro w' hS'
                (try dsimp only at hS')
                go_simp <;> with_reducible rfl
              try simp only [Act.put, List.setIfInBounds_toArray, List.set_cons_zero, List.set_cons_succ]
              refine wpAnyS_take (i := 7) (v := ?_) rfl (by kernel_rfl) (fun _ _ _ h => h) (by rfl) hSb ?_ ?_
              rotate_left
              · intro w' hS'
                (try dsimp only at hS')
                go_simp <;> with_reducible rfl
              try simp only [Act.put, List.setIfInBounds_toArray, List.set_cons_zero, List.set_cons_succ]
              refine wpAnyS_take (i := 8) (v := ?_) rfl (by kernel_rfl) (fun _ _ _ h => h) (by rfl) hSb ?_ ?_
              rotate_left
              · intro w' hS'
                (try dsimp only at hS')
                go_simp <;> with_reducible rfl
              try simp only [Act.put, List.setIfInBounds_toArray, List.set_cons_zero, List.set_cons_succ]
              refine wpAnyS_take (i := 9) (v := ?_) rfl (by kernel_rfl) (fun _ _ _ h => h) (by rfl) hSb ?_ ?_
              rotate_left
              · intro w' hS'
                (try dsimp only at hS')
                go_simp <;> with_reducible rfl
              try simp only [Act.put, List.setIfInBounds_toArray, List.set_cons_zero, List.set_cons_succ]
              refine wpAnyS_take (i := 10) (v := ?_) rfl (by kernel_rfl) (fun _ _ _ h => h) (by rfl) hSb ?_ ?_
              rotate_left
              · intro w' hS'
                have cj12 := j12 _ hS'
                go_simp <;> with_reducible rfl
              try simp only [Act.put, List.setIfInBounds_toArray, List.set_cons_zero, List.set_cons_succ]
              refine wpAnyS_take (i := 11) (v := ?_) rfl (by kernel_rfl) (fun _ _ _ h => h) (by rfl) hSb ?_ ?_
              rotate_left
              · intro w' hS'
                (try dsimp only at hS')
                go_simp <;> with_reducible rfl
              try simp only [Act.put, List.setIfInBounds_toArray, List.set_cons_zero, List.set_cons_succ]
              refine wpAnyS_take (i := 12) (v := ?_) rfl (by kernel_rfl) (fun _ _ _ h => h) (by rfl) hSb ?_ ?_
              rotate_left
              · intro w' hS'
                (try dsimp only at hS')
                go_simp <;> with_reducible rfl
              try simp only [Act.put, List.setIfInBounds_toArray, List.set_cons_zero, List.set_cons_succ]
              refine wpAnyS_take (i := 13) (v := ?_) rfl (by kernel_rfl) (fun _ _ _ h => h) (by rfl) hSb ?_ ?_
              rotate_left
              · intro w' hS'
                have cjv := jv _ hS'
                go_simp <;> with_reducible rfl
              try simp only [Act.put, List.setIfInBounds_toArray, List.set_cons_zero, List.set_cons_succ]
              refine wpAnyS_one (i := 14) rfl (by kernel_rfl) (by decide) (by rfl) fun K hK => ?_
              go_simp
              refine (cloneT_any _ x.length _ _ (CSl.of_sl (HXT.out.fr0 hSb.fr)) (HT1.out _) hxl).mono ?_
              rintro e w9 ⟨xa2, xc2, rfl, ho9, hf9⟩
              have hSc := KeptF.next hSb hf9
              refine hK.out _ _ hSc ?_
              clear hK K
              try simp only [Act.put, List.setIfInBounds_toArray, List.set_cons_zero, List.set_cons_succ]
              refine wpAnyS_take (i := 15) (v := ?_) rfl (by kernel_rfl) (fun _ _ _ h => h) (by rfl) hSc ?_ ?_
              rotate_left
              · intro w' hS'
                (try dsimp only at hS')
                go_simp <;> with_reducible rfl
              try simp only [Act.put, List.setIfInBounds_toArray, List.set_cons_zero, List.set_cons_succ]
              have fz := World.ownsRow.frozenAt ((KeptF.fr hSc).own HM.out.vals.own fun _ _ h => h) k
              have HN := Lib.hid (HM.out.next HGX.out (KeptF.fr hSc) ho9)
              refine wpAnyS_last (i := 16) rfl (by kernel_rfl) (by decide) (by kernel_rfl) (by rfl) fun K hK => ?_
              go_simp
              refine hK.out _ _ ?_
              clear hK K hSb hSc fz j12 jv ho9 hf9
              go_wp2_with fail
              go_roundw
              case rel => exact ⟨k + 1, _, by omega, by go_num, HN.out⟩
              case measure => simp [intOf]; omega
            · obtain rfl : k = n.vals.length := by omega
              have hkk : ¬ (n.vals.length : Int) < (n.vals.length : Int) := by omega
              have HD := Lib.hid (HM.out.done HG.out)
              clear hlk hk HM
              go_wp2_with fail
              go_roundw
              case rel => exact ⟨i + 1, cs2, by omega, by go_num, HD.out⟩
              case measure => simp [intOf]; omega
      · have c0 := (Fr.refl wo Nil).drew.cell P12.out fun h => h
        go_simp
        refine hK.out _ _ trivial ?_
        clear hK K c0
        try simp only [Act.put, List.setIfInBounds_toArray, List.set_cons_zero, List.set_cons_succ]
        refine wpAnyS_one (i := 8) rfl (by kernel_rfl) (by decide) (by rfl) fun K hK => ?_
        have c0 := (Fr.refl wo Nil).drew.cell P11.out fun h => h
        go_simp
        refine hK.out _ _ trivial ?_
        clear hK K c0
        try simp only [Act.put, List.setIfInBounds_toArray, List.set_cons_zero, List.set_cons_succ]
        refine wpAnyS_one (i := 9) rfl (by kernel_rfl) (by decide) (by rfl) fun K hK => ?_
        go_simp
        refine (cloneT_any _ n.key.length _ _ (CSl.of_sl ((HKT.out.fr0 HI.out.fr).fr0 ((Fr.refl wo Nil).drew))) (HT1.out _) HNF.out.1).mono ?_
        rintro e w5 ⟨ka2, kc2, rfl, ho5, hf5⟩
        refine hK.out _ _ trivial ?_
        clear hK K
        try simp only [Act.put, List.setIfInBounds_toArray, List.set_cons_zero, List.set_cons_succ]
        have HF5 : Hid (Fr wo w5 Nil) := Lib.hid ((Fr.refl wo Nil).drew.trans0 hf5)
        have HF5s : Hid (wo.heap.size ≤ w5.heap.size) := HF5.out.size
        refine wpAnyS_one (i := 15) rfl (by kernel_rfl) (by decide) (by rfl) fun K hK => ?_
        go_simp
        refine (cloneV_any _ n.vals.length tvs0 _ (csl_fr0 HCV.out HF5.out) HCV1.out HNF.out.2.1).mono ?_
        rintro e w7 ⟨va2, vc2, rfl, ho7, hf7⟩
        refine hK.out _ _ trivial ?_
        clear hK K
        try simp only [Act.put, List.setIfInBounds_toArray, List.set_cons_zero, List.set_cons_succ]
        have hkn : ∀ q, (Value.slice va2 n.vals.length vc2).ownBlock = some q → (Value.slice ka2 n.key.length kc2).ownBlock ≠ some q := fun q h1 h2 => by
          have := (World.ownsRow.lt ho7 q h1).1
          have := (World.ownsRow.lt ho5 q h2).2
          omega
        have hs5 := HF5s.out
        have HM := Lib.hid (HI.out.mid HROW.out (HF5.out.trans0 hf7) (own_in (hf7.own ho5 fun _ _ h => h) (Nat.le_refl _)) (own_in ho7 (by omega)) hkn HTV.out)
        have z1 := World.ownsRow.frozenAt ((HF5.out.trans0 hf7).own HI.out.own fun _ _ h => h) (i * 13 + 11)
        have z2 := fun u => World.ownsRow.frozenAt (World.ownsRow.stored ((HF5.out.trans0 hf7).own HI.out.own fun _ _ h => h) (i * 13 + 11) u).1 (i * 13 + 12)
        have z3 := (HF5.out.trans0 hf7).cell P11.out fun h => h
        have z4 := fun u => (World.ownsRow.cellAt (World.ownsRow.stored ((HF5.out.trans0 hf7).own HI.out.own fun _ _ h => h) (i * 13 + 11) u).1 (i * 13 + 12) (by omega)).trans ((HROW.out.setK u) 12 _ rfl)
        clear ho5 ho7 hf5 hf7 hkn hs5 HF5 HF5s
        refine wpAnyS_take (i := 16) (v := ?_) rfl (by kernel_rfl) (fun _ _ _ h => h) (by rfl) hSa ?_ ?_
        rotate_left
        · intro w' hS'
          (try dsimp only at hS')
          go_simp <;> with_reducible rfl
        try simp only [Act.put, List.setIfInBounds_toArray, List.set_cons_zero, List.set_cons_succ]
        refine wpAnyS_take (i := 17) (v := ?_) rfl (by kernel_rfl) (fun _ _ _ h => h) (by rfl) hSa ?_ ?_
        rotate_left
        · intro w' hS'
          (try dsimp only at hS')
          go_simp <;> with_reducible rfl
        try simp only [Act.put, List.setIfInBounds_toArray, List.set_cons_zero, List.set_cons_succ]
        refine wpAnyS_one (i := 18) rfl (by kernel_rfl) (by decide) (by rfl) fun K hK => ?_
        go_simp
        refine hK.out _ _ trivial ?_
        clear hK K
        try simp only [Act.put, List.setIfInBounds_toArray, List.set_cons_zero, List.set_cons_succ]
        refine wpAnyS_take (i := 19) (v := ?_) rfl (by kernel_rfl) (fun _ _ _ h => h) (by rfl) hSa ?_ ?_
        rotate_left
        · intro w' hS'
          (try dsimp only at hS')
          go_simp <;> with_reducible rfl
        try simp only [Act.put, List.setIfInBounds_toArray, List.set_cons_zero, List.set_cons_succ]
        refine wpAnyS_take (i := 20) (v := ?_) rfl (by kernel_rfl) (fun _ _ _ h => h) (by rfl) hSa ?_ ?_
        rotate_left
        · intro w' hS'
          (try dsimp only at hS')
          go_simp <;> with_reducible rfl
        try simp only [Act.put, List.setIfInBounds_toArray, List.set_cons_zero, List.set_cons_succ]
        refine wpAnyS_last (i := 21) rfl (by kernel_rfl) (by decide) (by kernel_rfl) (by rfl) fun K hK => ?_
        go_simp
        refine hK.out _ _ ?_
        clear hK K z1 z2 z3 z4 hSa
        obtain ⟨cs2, hcs2⟩ : ∃ cs2, cs2 = (cs.set (i * 13 + 11) (Value.slice ka2 n.key.length kc2)).set (i * 13 + 12) (.slice va2 n.vals.length vc2) := ⟨_, rfl⟩
        rw [← hcs2] at HM
        clear hcs2
        obtain ⟨w8, hw8⟩ : ∃ w8, w8 = (w7.setCell ⟨cb, i * 13 + 11, none⟩ (.slice ka2 n.key.length kc2)).setCell ⟨cb, i * 13 + 12, none⟩ (.slice va2 n.vals.length vc2) := ⟨_, rfl⟩
        rw [← hw8] at HM ⊢
        clear hw8
        have hvl := HNF.out.2.1
        have y12 := (World.ownsRow.cellAt HM.out.own (i * 13 + 12) (by omega)).trans (HM.out.row 12 _ rfl)
        go_wp2_with fail
        go_loopw [38] (fun vk wr => ∃ (k : Nat) (tvs : List Value), k ≤ n.vals.length ∧ vk = .int .i64 k ∧ Mid w wr cb c1 i n L cs2 ka2 va2 kc2 vc2 k tvs) (fun vk _ => n.vals.length - (intOf vk).toNat)
        case atStart => exact ⟨0, tvs0, by omega, rfl, HM.out⟩
        case round =>
          clear HM y12
          obtain ⟨k, tvs, hk, rfl, hm⟩ := hrel
          have HM := Lib.hid hm
          obtain ⟨wi, rfl⟩ : ∃ wi : World, wi = wr := ⟨_, rfl⟩
          clear hm
          by_cases hlk : k < n.vals.length
          · have hgx := List.getElem?_eq_getElem hlk
            have hxl := HNF.out.2.2 _ (List.mem_of_getElem? hgx)
            generalize n.vals[k] = x at hgx hxl
            obtain ⟨vb, hvb⟩ : ∃ vb, va2 = some ⟨vb, 0, none⟩ := by
              rcases HM.out.vals.own.2 with ⟨_, h2⟩ | ⟨g, cap, cur, hv, _⟩
              · omega
              · simp only [Value.slice.injEq] at hv
                exact ⟨g, hv.1⟩
            subst hvb
            obtain ⟨xa, xc, hx1, _, hx2⟩ := HM.out.vals.ent k x hgx
            have q12 := (World.ownsRow.cellAt HM.out.own (i * 13 + 12) (by omega)).trans (HM.out.row 12 _ rfl)
            have qv := (World.ownsRow.cellAt HM.out.vals.own k (by omega)).trans hx1
            have HXT := Lib.hid ((hx2 (Nat.le_refl _)).fr0 HM.out.fr)
            have HGX := Lib.hid hgx
            have j12 := KeptF.cell q12
            have jv := KeptF.cell qv
            have hkk : (k : Int) < (n.vals.length : Int) := by omega
            clear hgx hx1 hx2 q12 qv
            go_wp2_with fail
            refine wp_region_sink 16 (KeptF wi) (by kernel_rfl) ?_
            have hSb : KeptF wi wi.drew := KeptF.start _
            refine wpAnyS_take (i := 0) (v := ?_) rfl (by kernel_rfl) (fun _ _ _ h => h) (by rfl) hSb ?_ ?_
            rotate_left
            · intro w' hS'
              (try dsimp only at hS')
              go_simp <;> with_reducible rfl
            try simp only [Act.put, List.setIfInBounds_toArray, List.set_cons_zero, List.set_cons_succ]
            refine wpAnyS_take (i := 1) (v := ?_) rfl (by kernel_rfl) (fun _ _ _ h => h) (by rfl) hSb ?_ ?_
            rotate_left
            · intro w' hS'
              (try dsimp only at hS')
              go_simp <;> with_reducible rfl
            try simp only [Act.put, List.setIfInBounds_toArray, List.set_cons_zero, List.set_cons_succ]
            refine wpAnyS_take (i := 2) (v := ?_) rfl (by kernel_rfl) (fun _ _ _ h => h) (by rfl) hSb ?_ ?_
            rotate_left
            · intro w' hS'
              (try dsimp only at hS')
              go_simp <;> with_reducible rfl
            try simp only [Act.put, List.setIfInBounds_toArray, List.set_cons_zero, List.set_cons_succ]
            refine wpAnyS_take (i := 3) (v := ?_) rfl (by kernel_rfl) (fun _ _ _ h => h) (by rfl) hSb ?_ ?_
            rotate_left
            · intro w' hS'
              (try dsimp only at hS')
              go_simp <;> with_reducible rfl
            try simp only [Act.put, List.setIfInBounds_toArray, List.set_cons_zero, List.set_cons_succ]
            refine wpAnyS_take (i := 4) (v := ?_) rfl (by kernel_rfl) (fun _ _ _ h => h) (by rfl) hSb ?_ ?_
            rotate_left
            · intro w' hS'
              have cj12 := j12 _ hS'
              go_simp <;> with_reducible rfl
            try simp only [Act.put, List.setIfInBounds_toArray, List.set_cons_zero, List.set_cons_succ]
            refine wpAnyS_take (i := 5) (v := ?_) rfl (by kernel_rfl) (fun _ _ _ h => h) (by rfl) hSb ?_ ?_
            rotate_left
            · intro w' hS'
              (try dsimp only at hS')
              go_simp <;> with_reducible rfl
            try simp only [Act.put, List.setIfInBounds_toArray, List.set_cons_zero, List.set_cons_succ]
            refine wpAnyS_take (i := 6) (v := ?_) rfl (by kernel_rfl) (fun _ _ _ h => h) (by rfl) hSb ?_ ?_
            rotate_left
            · intro w' hS'
              (try dsimp only at hS')
              go_simp <;> with_reducible rfl
            try simp only [Act.put, List.setIfInBounds_toArray, List.set_cons_zero, List.set_cons_succ]
            refine wpAnyS_take (i := 7) (v := ?_) rfl (by kernel_rfl) (fun _ _ _ h => h) (by rfl) hSb ?_ ?_
            rotate_left
            · intro w' hS'
              (try dsimp only at hS')
              go_simp <;> with_reducible rfl
            try simp only [Act.put, List.setIfInBounds_toArray, List.set_cons_zero, List.set_cons_succ]
            refine wpAnyS_take (i := 8) (v := ?_) rfl (by kernel_rfl) (fun _ _ _ h => h) (by rfl) hSb ?_ ?_
            rotate_left
            · intro w' hS'
              (try dsimp only at hS')
              go_simp <;> with_reducible rfl
            try simp only [Act.put, List.setIfInBounds_toArray, List.set_cons_zero, List.set_cons_succ]
            refine wpAnyS_take (i := 9) (v := ?_) rfl (by kernel_rfl) (fun _ _ _ h => h) (by rfl) hSb ?_ ?_
            rotate_left
            · intro w' hS'
              (try dsimp only at hS')
              go_simp <;> with_reducible rfl
            try simp only [Act.put, List.setIfInBounds_toArray, List.set_cons_zero, List.set_cons_succ]
            refine wpAnyS_take (i := 10) (v := ?_) rfl (by kernel_rfl) (fun _ _ _ h => h) (by rfl) hSb ?_ ?_
            rotate_left
            · intro w' hS'
              have cj12 := j12 _ hS'
              go_simp <;> with_reducible rfl
            try simp only [Act.put, List.setIfInBounds_toArray, List.set_cons_zero, List.set_cons_succ]
            refine wpAnyS_take (i := 11) (v := ?_) rfl (by kernel_rfl) (fun _ _ _ h => h) (by rfl) hSb ?_ ?_
            rotate_left
            · intro w' hS'
              (try dsimp only at hS')
              go_simp <;> with_reducible rfl
            try simp only [Act.put, List.setIfInBounds_toArray, List.set_cons_zero, List.set_cons_succ]
            refine wpAnyS_take (i := 12) (v := ?_) rfl (by kernel_rfl) (fun _ _ _ h => h) (by rfl) hSb ?_ ?_
            rotate_left
            · intro w' hS'
              (try dsimp only at hS')
              go_simp <;> with_reducible rfl
            try simp only [Act.put, List.setIfInBounds_toArray, List.set_cons_zero, List.set_cons_succ]
            refine wpAnyS_take (i := 13) (v := ?_) rfl (by kernel_rfl) (fun _ _ _ h => h) (by rfl) hSb ?_ ?_
            rotate_left
            · intro w' hS'
              have cjv := jv _ hS'
              go_simp <;> with_reducible rfl
            try simp only [Act.put, List.setIfInBounds_toArray, List.set_cons_zero, List.set_cons_succ]
            refine wpAnyS_one (i := 14) rfl (by kernel_rfl) (by decide) (by rfl) fun K hK => ?_
            go_simp
            refine (cloneT_any _ x.length _ _ (CSl.of_sl (HXT.out.fr0 hSb.fr)) (HT1.out _) hxl).mono ?_
            rintro e w9 ⟨xa2, xc2, rfl, ho9, hf9⟩
            have hSc := KeptF.next hSb hf9
            refine hK.out _ _ hSc ?_
            clear hK K
            try simp only [Act.put, List.setIfInBounds_toArray, List.set_cons_zero, List.set_cons_succ]
            refine wpAnyS_take (i := 15) (v := ?_) rfl (by kernel_rfl) (fun _ _ _ h => h) (by rfl) hSc ?_ ?_
            rotate_left
            · intro w' hS'
              (try dsimp only at hS')
              go_simp <;> with_reducible rfl
            try simp only [Act.put, List.setIfInBounds_toArray, List.set_cons_zero, List.set_cons_succ]
            have fz := World.ownsRow.frozenAt ((KeptF.fr hSc).own HM.out.vals.own fun _ _ h => h) k
            have HN := Lib.hid (HM.out.next HGX.out (KeptF.fr hSc) ho9)
            refine wpAnyS_last (i := 16) rfl (by kernel_rfl) (by decide) (by kernel_rfl) (by rfl) fun K hK => ?_
            go_simp
            refine hK.out _ _ ?_
            clear hK K hSb hSc fz j12 jv ho9 hf9
            go_wp2_with fail
            go_roundw
            case rel => exact ⟨k + 1, _, by omega, by go_num, HN.out⟩
            case measure => simp [intOf]; omega
          · obtain rfl : k = n.vals.length := by omega
            have hkk : ¬ (n.vals.length : Int) < (n.vals.length : Int) := by omega
            have HD := Lib.hid (HM.out.done HG.out)
            clear hlk hk HM
            go_wp2_with fail
            go_roundw
            case rel => exact ⟨i + 1, cs2, by omega, by go_num, HD.out⟩
            case measure => simp [intOf]; omega
    · obtain rfl : i = L.length := by omega
      have hii : ¬ (L.length : Int) < (L.length : Int) := by omega
      have HR := Lib.hid HI.out.code
      have HF := Lib.hid HI.out.fr
      clear hlt hi HI
      go_wp2_with fail
      go_ret
      exact ⟨_, _, rfl, HR.out, HF.out⟩
end Go.Proofs.YtgpekgnhbccnoaaGreat
