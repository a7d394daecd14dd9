/-
  A slice that reads as a row of cells; append of such a one, nil or not, onto a row of the call's own.
  No condition.
  Rows of elements of several cells each.
  No condition.
-/
import Derived.Test.YtokeciekncincabGreatPkC1
import Derived.RegionTactic
import Derived.OwnWalk
namespace Go.Proofs.YtokeciekncincabGreat
open Go Go.RowKit

/-- v is a slice of n elements, size cells each, that reads as the cells cs. -/
def SlAt (w : World) (size : Nat) (v : Value) (n : Nat) (cs : List Value) : Prop :=
  cs.length = n * size ∧ ((v = .slice none 0 0 ∧ n = 0) ∨ ∃ a cap, v = .slice (some a) n cap ∧ ∀ j u, cs[j]? = some u → w.cell? (a.add j) = some u)
def CapOk (v : Value) : Prop := ∀ a n c, v = .slice a n c → n ≤ c
theorem add_block (a : Addr) (j : Nat) : (a.add j).block = a.block := by unfold Addr.add; split <;> rfl
section
variable {w w' : World} {size n : Nat} {v : Value} {cs : List Value}
theorem SlAt.cast {n' : Nat} {cs' : List Value} (h : SlAt w size v n cs) (hn : n = n') (hc : cs = cs') : SlAt w size v n' cs' := by subst hn; subst hc; exact h
theorem SlAt.nil (w : World) (size : Nat) : SlAt w size (.slice none 0 0) 0 [] := ⟨by simp, .inl ⟨rfl, rfl⟩⟩
theorem SlAt.fr {S : Nat → Prop} (h : SlAt w size v n cs) (hf : Fr w w' S) (hv : ∀ k, v.ownBlock = some k → ¬ S k) : SlAt w' size v n cs := by
  refine ⟨h.1, h.2.imp id ?_⟩
  rintro ⟨a, cap, rfl, hc⟩
  exact ⟨a, cap, rfl, fun j u hu => hf.cell (hc j u hu) (by rw [add_block]; exact hv _ rfl)⟩
theorem SlAt.fr0 (h : SlAt w size v n cs) (hf : Fr w w' Nil) : SlAt w' size v n cs := h.fr hf fun _ _ h => h
theorem SlAt.form (h : SlAt w size v n cs) (hs : 0 < size) (hn : 0 < n) : ∃ b off cap, v = .slice (some ⟨b, off, none⟩) n cap ∧ ∀ j u, cs[j]? = some u → w.cell? ⟨b, off + j, none⟩ = some u := by
  rcases h.2 with ⟨_, h0⟩ | ⟨⟨b, off, spot⟩, cap, rfl, hc⟩
  · omega
  · have hl : 0 < cs.length := by rw [h.1]; exact Nat.mul_pos hn hs
    have h0 := hc 0 cs[0] (List.getElem?_eq_getElem hl)
    have hsp : spot = none := by
      cases spot with
      | none => rfl
      | some s =>
        simp only [Addr.add, if_true, World.cell?] at h0
        split at h0 <;> simp at h0
    subst hsp
    refine ⟨b, off, cap, rfl, fun j u hu => ?_⟩
    have := hc j u hu
    rwa [Addr.add_lit] at this
theorem SlAt.shape (h : SlAt w size v n cs) : ∃ a cap, v = .slice a n cap := by
  rcases h.2 with ⟨rfl, rfl⟩ | ⟨a, cap, rfl, _⟩
  · exact ⟨none, 0, rfl⟩
  · exact ⟨_, cap, rfl⟩
theorem SlAt.lt (h : SlAt w size v n cs) (hs : 0 < size) (hn : 0 < n) : ∀ k, v.ownBlock = some k → k < w.heap.size := by
  obtain ⟨b, off, cap, rfl, hc⟩ := h.form hs hn
  intro k hk
  cases hk
  have hl : 0 < cs.length := by rw [h.1]; exact Nat.mul_pos hn hs
  exact World.block_lt_of_cell? w ⟨b, off + 0, none⟩ (hc 0 cs[0] (List.getElem?_eq_getElem hl))
theorem SlAt.of_own {base : Nat} {e : TypeId} (h : w.ownsRow base e size v n cs) : SlAt w size v n cs ∧ CapOk v := by
  refine ⟨⟨h.1, ?_⟩, ?_⟩
  · rcases h.2 with ⟨rfl, hn⟩ | ⟨g, cap, cur, rfl, _⟩
    · exact .inl ⟨rfl, hn⟩
    · exact .inr ⟨_, cap, rfl, h.cells (g := g) rfl⟩
  · rcases h.2 with ⟨rfl, hn⟩ | ⟨g, cap, cur, rfl, _, _, hc, _⟩
    · intro a n c e; cases e; exact Nat.le_refl _
    · intro a n c e; cases e; exact hc
theorem SlAt.of_ints {xs : List Int} (h : IntsAt w v xs) : SlAt w 1 v xs.length (xs.map (Value.int .i64)) := by
  refine ⟨by simp, ?_⟩
  rcases h with ⟨rfl, rfl⟩ | ⟨a, cap, rfl, hc⟩
  · exact .inl ⟨rfl, rfl⟩
  · exact .inr ⟨a, cap, rfl, hc⟩
theorem SlAt.ints {xs : List Int} (h : SlAt w 1 v xs.length (xs.map (Value.int .i64))) : IntsAt w v xs := by
  rcases h.2 with ⟨rfl, hn⟩ | ⟨a, cap, rfl, hc⟩
  · exact .inl ⟨rfl, List.eq_nil_of_length_eq_zero hn⟩
  · exact .inr ⟨a, cap, rfl, hc⟩
theorem add_add (a : Addr) (i j : Nat) : (a.add i).add j = a.add (i + j) := by
  unfold Addr.add
  by_cases hi : i = 0 <;> by_cases hj : j = 0 <;> simp [hi, hj, Nat.add_assoc]
/-- A piece ahead. -/
theorem SlAt.take {k : Nat} {a : Option Addr} {c c' : Nat} (h : SlAt w size (.slice a n c) n cs) (hk : k ≤ n) (hc : a = none → c' = 0) : SlAt w size (.slice a k c') k (cs.take (k * size)) := by
  refine ⟨by rw [List.length_take, h.1, Nat.min_eq_left (Nat.mul_le_mul_right _ hk)], ?_⟩
  rcases h.2 with ⟨he, hn⟩ | ⟨a', cap, he, hcell⟩
  · cases he
    obtain rfl : k = 0 := by omega
    exact .inl ⟨by rw [hc rfl], rfl⟩
  · cases he
    exact .inr ⟨a', c', rfl, fun j u hu => hcell j u (by
      rw [List.getElem?_take] at hu
      split at hu
      · exact hu
      · cases hu)⟩
/-- A piece behind. -/
theorem SlAt.drop {k : Nat} {a : Option Addr} {c : Nat} (h : SlAt w size (.slice a n c) n cs) (hk : k ≤ n) (hcap : n ≤ c) :
    SlAt w size (.slice (if c = k then a else a.map (·.add (k * size))) (n - k) (c - k)) (n - k) (cs.drop (k * size)) := by
  refine ⟨by rw [List.length_drop, h.1, Nat.sub_mul], ?_⟩
  rcases h.2 with ⟨he, hn⟩ | ⟨a', cap, he, hcell⟩
  · cases he
    obtain rfl : k = 0 := by omega
    exact .inl ⟨by simp, by omega⟩
  · cases he
    by_cases hck : c = k
    · subst hck
      have h0 : n - c = 0 := by omega
      refine .inr ⟨a', c - c, by simp, fun j u hu => ?_⟩
      rw [List.getElem?_drop, List.getElem?_eq_none (by rw [h.1]; have := Nat.mul_le_mul_right size (show n ≤ c by omega); omega)] at hu
      cases hu
    · rw [if_neg hck]
      refine .inr ⟨a'.add (k * size), c - k, rfl, fun j u hu => ?_⟩
      rw [add_add]
      rw [List.getElem?_drop] at hu
      exact hcell _ u hu
end

/-- What a walk asks of a slice's type and its element's. -/
def SlT (P : Program) (t e : TypeId) (size bytes : Nat) : Prop :=
  ∃ i z, P.underlying t = some (.slice e) ∧ P.info? e = some i ∧ i.zero = some z ∧ i.size = size ∧ i.bytes = bytes ∧ z.cells.size = size ∧ 0 < size ∧ bytes ≤ 100000
theorem SlT.mk {P : Program} {t e : TypeId} {z : Value} {size bytes : Nat} (ht : P.underlying t = some (.slice e)) (hi : (P.info? e).map (fun i => (i.zero, i.size, i.bytes)) = some (some z, size, bytes)) (hz : z.cells.size = size) (hs : 0 < size) (hb : bytes ≤ 100000) : SlT P t e size bytes := by
  obtain ⟨i, h1, h2, h3, h4⟩ := info_parts hi
  exact ⟨i, z, ht, h1, h2, h3, h4, hz, hs, hb⟩

section
variable {P : Program} (w : World)
theorem run_app {t ty e : TypeId} {size bytes : Nat} (hT : SlT P t e size bytes) {v : Value} {n : Nat} {xs : List Value} (hown : w.ownsRow 0 e size v n xs)
    {x : Value} {m : Nat} {news : List Value} (hx : SlAt w size x m news) (h1 : ∀ u ∈ news, u.oneCell' = true) (hlen : n + m ≤ 1000000) :
    ∃ v' w', (Builtin.append_ #[t, t] ty #[v, x]).run P w = .ok v' w' ∧ w'.ownsRow 0 e size v' (n + m) (xs ++ news) ∧ w.grownBy w' v.ownBlock ∧ (v'.ownBlock = v.ownBlock ∨ v'.ownBlock = some w.heap.size) := by
  obtain ⟨i, z, ht, hi, hz, hsz, hby, hzs, hs0, hb⟩ := hT
  have hbytes : (n + m) * bytes ≤ 140737488355328 := Nat.le_trans (Nat.mul_le_mul hlen hb) (by decide)
  have hmax : n + m ≤ maxLen := by unfold maxLen; omega
  rcases hx.2 with ⟨rfl, rfl⟩ | ⟨a, c, rfl, hc⟩
  · have hn : news = [] := List.eq_nil_of_length_eq_zero (by rw [hx.1, Nat.zero_mul])
    subst hn
    refine ⟨v, w, ?_, by simpa using hown, World.grownBy.refl w _, .inl rfl⟩
    rcases hown.2 with ⟨rfl, rfl⟩ | ⟨g, cap, cur, rfl, _, _, hnc, _⟩
    · simp [Builtin.append_, run_underlying ht, sizeOf, typeInfo, hi, Builtin.lenOf, Builtin.firstCells]
    · simp [Builtin.append_, run_underlying ht, sizeOf, typeInfo, hi, Builtin.lenOf, Builtin.firstCells, hnc, storeCells]
  · obtain ⟨v', w', h2, h3, h4, _, h5⟩ := run_append_own_at (P := P) w 0 t ty e i z size bytes ht hi hz hsz hby hzs hs0 v n xs hown a m c news hx.1 hc h1 hmax hbytes (Nat.zero_le _)
    exact ⟨v', w', h2, h3, h4, h5⟩
theorem wp_app {o : Oper} {a : Act} {K : Act → World → Prop} {Q : Exit → Act → World → Prop} (s x : Operand) (t : TypeId) (ho : o.op = .call { callee := .builtin .append, args := #[s, x], argTypes := #[t, t] })
    {e : TypeId} {size bytes : Nat} (hT : SlT P t e size bytes) (v : Value) {n : Nat} {xs : List Value} (hs : a.eval s = v) (hown : w.ownsRow 0 e size v n xs)
    (xv : Value) {m : Nat} {news : List Value} (hx : a.eval x = xv) (hr : SlAt w size xv m news) (h1 : ∀ u ∈ news, u.oneCell' = true) (hlen : n + m ≤ 1000000)
    (h : ∀ g cap w', w'.ownsRow 0 e size (.slice g (n + m) cap) (n + m) (xs ++ news) → w.grownBy w' v.ownBlock → ((Value.slice g (n + m) cap).ownBlock = v.ownBlock ∨ (Value.slice g (n + m) cap).ownBlock = some w.heap.size) → K (a.put o.dst (.slice g (n + m) cap)) w') : o.wp P a w K Q := by
  obtain ⟨v', w', hrun, h2, h3, h4⟩ := run_app (P := P) w (ty := o.type) hT hown hr h1 hlen
  have hv' : ∃ g cap, v' = .slice g (n + m) cap := by
    rcases h2.2 with ⟨rfl, hn⟩ | ⟨g, cap, cur, rfl, _⟩
    · exact ⟨none, 0, by rw [hn]⟩
    · exact ⟨_, cap, rfl⟩
  obtain ⟨g, cap, rfl⟩ := hv'
  unfold Oper.wp execOp
  simp only [ho, resolve, invoke, builtin, Sem.run_bind, Sem.run_pure, Result.andThen_ok, List.map_toArray, List.map_cons, List.map_nil, hs, hx, hrun]
  exact h g cap w' h2 h3 h4
theorem wpList_app {ops : Array Oper} {rest : List Oper} {o : Oper} {a : Act} {Q : Exit → Act → World → Prop} (hgd : o.guard = none) (s x : Operand) (t : TypeId) (ho : o.op = .call { callee := .builtin .append, args := #[s, x], argTypes := #[t, t] })
    {e : TypeId} {size bytes : Nat} (hT : SlT P t e size bytes) (v : Value) {n : Nat} {xs : List Value} (hs : a.eval s = v) (hown : w.ownsRow 0 e size v n xs)
    (xv : Value) {m : Nat} {news : List Value} (hx : a.eval x = xv) (hr : SlAt w size xv m news) (h1 : ∀ u ∈ news, u.oneCell' = true) (hlen : n + m ≤ 1000000)
    (h : ∀ g cap w', w'.ownsRow 0 e size (.slice g (n + m) cap) (n + m) (xs ++ news) → w.grownBy w' v.ownBlock → ((Value.slice g (n + m) cap).ownBlock = v.ownBlock ∨ (Value.slice g (n + m) cap).ownBlock = some w.heap.size) → wpList P ops Q rest (a.put o.dst (.slice g (n + m) cap)) w') : wpList P ops Q (o :: rest) a w :=
  wpList_plain hgd fun _ hK => wp_app w s x t ho hT v hs hown xv hx hr h1 hlen fun g cap w' h2 h3 h4 => hK _ _ (h g cap w' h2 h3 h4)
theorem step_app {ops : Array Oper} {o : Oper} {a : Act} {K : Act → World → Prop} {Q : Exit → Act → World → Prop} {E : Prop} (hgd : o.guard = none) (s x : Operand) (t : TypeId) (ho : o.op = .call { callee := .builtin .append, args := #[s, x], argTypes := #[t, t] })
    {e : TypeId} {size bytes : Nat} (hT : SlT P t e size bytes) (v : Value) {n : Nat} {xs : List Value} (hs : a.eval s = v) (hown : w.ownsRow 0 e size v n xs)
    (xv : Value) {m : Nat} {news : List Value} (hx : a.eval x = xv) (hr : SlAt w size xv m news) (h1 : ∀ u ∈ news, u.oneCell' = true) (hlen : n + m ≤ 1000000)
    (h : ∀ g cap w', w'.ownsRow 0 e size (.slice g (n + m) cap) (n + m) (xs ++ news) → w.grownBy w' v.ownBlock → ((Value.slice g (n + m) cap).ownBlock = v.ownBlock ∨ (Value.slice g (n + m) cap).ownBlock = some w.heap.size) → K (a.put o.dst (.slice g (n + m) cap)) w') :
    if Region.wanted o (yielded ops a.tmps) = true then Oper.wp P o a w K Q else E := by
  have hw : Region.wanted o (yielded ops a.tmps) = true := by simp [Region.wanted, hgd]
  rw [if_pos hw]
  exact wp_app w s x t ho hT v hs hown xv hx hr h1 hlen h
end
end Go.Proofs.YtokeciekncincabGreat
namespace Go.Proofs.YtokeciekncincabGreat
open Go Go.RowKit
section
variable {α : Type} {f : α → List Value} {n : Nat}
theorem flat_len (hf : ∀ x, (f x).length = n) (l : List α) : (l.flatMap f).length = l.length * n := by
  induction l with
  | nil => simp
  | cons x l ih => rw [List.flatMap_cons, List.length_append, ih, hf, List.length_cons, Nat.succ_mul, Nat.add_comm]
theorem flat_get (hf : ∀ x, (f x).length = n) {l : List α} {i : Nat} {t : α} (h : l[i]? = some t) (j : Nat) (hj : j < n) : (l.flatMap f)[i * n + j]? = (f t)[j]? := by
  induction l generalizing i with
  | nil => simp at h
  | cons x l ih =>
    cases i with
    | zero =>
      simp at h; subst h
      rw [List.flatMap_cons, Nat.zero_mul, Nat.zero_add, List.getElem?_append_left (by rw [hf]; exact hj)]
    | succ i =>
      simp at h
      rw [List.flatMap_cons, List.getElem?_append_right (by rw [hf, Nat.succ_mul]; omega), ← ih h, hf]
      congr 1
      rw [Nat.succ_mul]; omega
theorem sl_of {w : World} (hf : ∀ x, (f x).length = n) (hn : 0 < n) {l : List α} {b off cap : Nat} (h : ∀ i t, l[i]? = some t → ∀ j u, (f t)[j]? = some u → w.cell? ⟨b, off + i * n + j, none⟩ = some u) :
    SlAt w n (.slice (some ⟨b, off, none⟩) l.length cap) l.length (l.flatMap f) := by
  refine ⟨flat_len hf l, .inr ⟨⟨b, off, none⟩, cap, rfl, fun j u hu => ?_⟩⟩
  have hj := (List.getElem?_eq_some_iff.1 hu).1
  rw [flat_len hf] at hj
  have hi : j / n < l.length := (Nat.div_lt_iff_lt_mul hn).2 hj
  have ht := List.getElem?_eq_getElem hi
  have hr := Nat.mod_lt j hn
  have hd := Nat.div_add_mod j n
  rw [Nat.mul_comm] at hd
  have h5 := h _ _ ht (j % n) u (by rw [← flat_get hf ht _ hr, hd]; exact hu)
  rw [Nat.add_assoc, hd] at h5
  rw [Addr.add_lit]
  exact h5
theorem flat_form {w : World} {v : Value} {l : List α} (hf : ∀ x, (f x).length = n) (hn : 0 < n) (h : SlAt w n v l.length (l.flatMap f)) (h0 : 0 < l.length) : ∃ b off cap, v = .slice (some ⟨b, off, none⟩) l.length cap ∧
    ∀ i t, l[i]? = some t → ∀ j u, (f t)[j]? = some u → w.cell? ⟨b, off + i * n + j, none⟩ = some u := by
  obtain ⟨b, off, cap, rfl, hc⟩ := SlAt.form h hn h0
  refine ⟨b, off, cap, rfl, fun i t ht j u hu => ?_⟩
  have hj := (List.getElem?_eq_some_iff.1 hu).1
  rw [hf] at hj
  rw [Nat.add_assoc]
  exact hc _ u (by rw [flat_get hf ht j hj, hu])
end
end Go.Proofs.YtokeciekncincabGreat
