/-
  Two pairs of tables and document's rows, and tables besides, each in memory of its own.
  No condition.
-/
import Derived.Test.YtljgifjokdppgaaRwDoesAll
namespace Go.Proofs.Ytljgifjokdppgaa
open Go Go.RowKit

structure Tri (w0 w : World) (r m s n b : Nat) (M1 M2 B : List MTab) (S1 T1 S2 T2 S3 : Nat → Prop) : Prop where
  x : Both w r m M1 S1 T1
  y : Both w s n M2 S2 T2
  z : Rws w b B S3
  a12 : ∀ k, S1 k ∨ T1 k → ¬ (S2 k ∨ T2 k)
  a13 : ∀ k, S1 k ∨ T1 k → ¬ S3 k
  a23 : ∀ k, S2 k ∨ T2 k → ¬ S3 k
  o1 : ∀ k, S1 k ∨ T1 k → w0.heap.size ≤ k
  o2 : ∀ k, S2 k ∨ T2 k → w0.heap.size ≤ k
  o3 : ∀ k, S3 k → w0.heap.size ≤ k
  fr : Fr w0 w Nil
def TriE (w0 w : World) (r m s n b : Nat) (M1 M2 B : List MTab) : Prop := ∃ S1 T1 S2 T2 S3, Tri w0 w r m s n b M1 M2 B S1 T1 S2 T2 S3
theorem Both.lt {w : World} {r m : Nat} {M : List MTab} {S T : Nat → Prop} (h : Both w r m M S T) : ∀ k, S k ∨ T k → k < w.heap.size := fun k hk => hk.elim (h.rws.lt k) (h.ref.lt k)
theorem Tri.fr0 {w0 w w' : World} {r m s n b : Nat} {M1 M2 B : List MTab} {S1 T1 S2 T2 S3 : Nat → Prop} (h : Tri w0 w r m s n b M1 M2 B S1 T1 S2 T2 S3) (hf : Fr w w' Nil) : Tri w0 w' r m s n b M1 M2 B S1 T1 S2 T2 S3 :=
  ⟨h.x.fr0 hf, h.y.fr0 hf, h.z.fr0 hf, h.a12, h.a13, h.a23, h.o1, h.o2, h.o3, h.fr.trans0 hf⟩
theorem Tri.upd1 {w0 w w' : World} {r m s n b : Nat} {M1 M2 B M1' : List MTab} {S1 T1 S2 T2 S3 : Nat → Prop} (h : Tri w0 w r m s n b M1 M2 B S1 T1 S2 T2 S3) (hu : BothUpd w r m S1 T1 M1' w') : TriE w0 w' r m s n b M1' M2 B := by
  obtain ⟨S', T', h1, h2, h3, h4⟩ := hu
  have hs := h.fr.size
  have hU : ∀ k, S' k ∨ T' k → (S1 k ∨ T1 k) ∨ w.heap.size ≤ k := fun k hk => hk.elim (fun hk => (h2 k hk).imp .inl id) (fun hk => (h3 k hk).imp .inr id)
  refine ⟨S', T', S2, T2, S3, h1, h.y.fr h4 (fun k hk hu => h.a12 k hu (.inl hk)) (fun k hk hu => h.a12 k hu (.inr hk)), h.z.fr h4 (fun k hk hu => h.a13 k hu hk), ?_, ?_, h.a23, ?_, h.o2, h.o3, h.fr.trans h4 fun k hlt hu => by have := h.o1 k hu; omega⟩
  · intro k hk hk2
    rcases hU k hk with hk | hk
    · exact h.a12 k hk hk2
    · have := h.y.lt k hk2; omega
  · intro k hk hk2
    rcases hU k hk with hk | hk
    · exact h.a13 k hk hk2
    · have := h.z.lt k hk2; omega
  · intro k hk
    rcases hU k hk with hk | hk
    · exact h.o1 k hk
    · omega
theorem Tri.upd2 {w0 w w' : World} {r m s n b : Nat} {M1 M2 B M2' : List MTab} {S1 T1 S2 T2 S3 : Nat → Prop} (h : Tri w0 w r m s n b M1 M2 B S1 T1 S2 T2 S3) (hu : BothUpd w s n S2 T2 M2' w') : TriE w0 w' r m s n b M1 M2' B := by
  obtain ⟨S', T', h1, h2, h3, h4⟩ := hu
  have hs := h.fr.size
  have hU : ∀ k, S' k ∨ T' k → (S2 k ∨ T2 k) ∨ w.heap.size ≤ k := fun k hk => hk.elim (fun hk => (h2 k hk).imp .inl id) (fun hk => (h3 k hk).imp .inr id)
  refine ⟨S1, T1, S', T', S3, h.x.fr h4 (fun k hk hu => h.a12 k (.inl hk) hu) (fun k hk hu => h.a12 k (.inr hk) hu), h1, h.z.fr h4 (fun k hk hu => h.a23 k hu hk), ?_, h.a13, ?_, h.o1, ?_, h.o3, h.fr.trans h4 fun k hlt hu => by have := h.o2 k hu; omega⟩
  · intro k hk2 hk
    rcases hU k hk with hk | hk
    · exact h.a12 k hk2 hk
    · have := h.x.lt k hk2; omega
  · intro k hk hk2
    rcases hU k hk with hk | hk
    · exact h.a23 k hk hk2
    · have := h.z.lt k hk2; omega
  · intro k hk
    rcases hU k hk with hk | hk
    · exact h.o2 k hk
    · omega
theorem Tri.upd3s {w0 w w' : World} {r m s n b : Nat} {M1 M2 B B' : List MTab} {S1 T1 S2 T2 S3 S' : Nat → Prop} (h : Tri w0 w r m s n b M1 M2 B S1 T1 S2 T2 S3) (h1 : Rws w' b B' S') (h2 : ∀ k, S' k → S3 k ∨ w.heap.size ≤ k) (h4 : Fr w w' S3) : Tri w0 w' r m s n b M1 M2 B' S1 T1 S2 T2 S' := by
  have hs := h.fr.size
  refine ⟨h.x.fr h4 (fun k hk hu => h.a13 k (.inl hk) hu) (fun k hk hu => h.a13 k (.inr hk) hu), h.y.fr h4 (fun k hk hu => h.a23 k (.inl hk) hu) (fun k hk hu => h.a23 k (.inr hk) hu), h1, h.a12, ?_, ?_, h.o1, h.o2, ?_, h.fr.trans h4 fun k hlt hu => by have := h.o3 k hu; omega⟩
  · intro k hk2 hk
    rcases h2 k hk with hk | hk
    · exact h.a13 k hk2 hk
    · have := h.x.lt k hk2; omega
  · intro k hk2 hk
    rcases h2 k hk with hk | hk
    · exact h.a23 k hk2 hk
    · have := h.y.lt k hk2; omega
  · intro k hk
    rcases h2 k hk with hk | hk
    · exact h.o3 k hk
    · omega
end Go.Proofs.Ytljgifjokdppgaa
