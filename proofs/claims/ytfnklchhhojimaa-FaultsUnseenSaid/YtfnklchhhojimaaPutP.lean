/- faults: put, check, Put. -/
import Derived.Test.YtfnklchhhojimaaFits
import Derived.Test.YtfnklchhhojimaaDel
import Derived.Test.YtfnklchhhojimaaTurnP
set_option linter.unusedSimpArgs false
set_option linter.unusedVariables false
namespace Go.Proofs.Ytfnklchhhojimaa
open Go Go.RowKit Tor

theorem kput_any (base g cap : Nat) (l : List Tri) (f : Flt) (w : World) (hR : SRowT w base g cap l) (hbase : base ≤ w.heap.size) (hl : l.length ≤ 2000) (hsh : shapedF f = true) (hfit : fitsF l f = true)
    (hs : ∀ (k : Nat) (hk : k < l.length), wordE l[k].s = 0) (hb : ∀ (k : Nat) (hk : k < l.length), 0 ≤ l[k].b ∧ l[k].b ≤ 100) :
    Calls Try.prog (kpf f.k) #[.slice (some ⟨g, 0, none⟩) l.length cap, .agg #[.int .i64 f.k, .int .i64 f.st, .int .i64 f.lt, .int .i64 f.wi]] w (FPutPost base g (putF l f) w) := by
  obtain ⟨h1, h2, h3⟩ := fits_step hfit
  obtain ⟨k, st, lt, wi⟩ := f
  simp only at h1 h2 h3 ⊢
  obtain ⟨n, rfl⟩ : ∃ n : Nat, st = n := ⟨st.toNat, by omega⟩
  have hn : n < l.length := by simpa using h2
  have hx := xAt_of hn
  have hsz : (xAt l n).s.size ≤ 16 := by rw [hx]; exact (word_ok (hs n hn)).1
  have hk : 1 ≤ k ∧ k ≤ 6 := by
    apply Classical.byContradiction; intro h
    have := shapedF_out (f := ⟨k, n, lt, wi⟩) h
    rw [this] at hsh; cases hsh
  unfold fitsF at hfit
  simp only [Bool.and_eq_true, Int.toNat_natCast] at hfit
  have hf2 := hfit.2
  unfold shapedF at hsh
  simp only at hsh
  rcases (show k = 1 ∨ k = 2 ∨ k = 3 ∨ k = 4 ∨ k = 5 ∨ k = 6 by omega) with rfl | rfl | rfl | rfl | rfl | rfl
  · simp at hf2
    obtain ⟨m, rfl⟩ : ∃ m : Nat, lt = m := ⟨lt.toNat, by omega⟩
    have := missP_any base g cap l 1 wi n m w hR hbase hl hn (by omega) (by omega)
    simpa [putF, kpf] using this
  · simp at hf2 hsh
    obtain ⟨m, rfl⟩ : ∃ m : Nat, lt = m := ⟨lt.toNat, by omega⟩
    have := extraP_any base g cap l 2 wi n m w hR hbase hl hn (by omega) (by omega) hsh
    simpa [putF, kpf] using this
  · simp at hf2 hsh
    obtain ⟨m, rfl⟩ : ∃ m : Nat, lt = m := ⟨lt.toNat, by omega⟩
    have hm : m < (xAt l n).s.size := by omega
    have hby : byteAt (xAt l n).s (m : Int) = (xAt l n).s[m] := by unfold byteAt; rw [Int.toNat_natCast, List.getD_eq_getElem?_getD, bget _ _ hm]; rfl
    have := turnP_any base g cap l 3 wi n m w hR hbase hl hn (by omega) hm ((word_ok (by rw [hx]; exact hs n hn)).2 _ (List.mem_of_getElem? (bget _ m hm)))
    rw [← hby] at this
    simpa [putF, kpf] using this
  · simp at hsh
    have := skipP_any base g cap l 4 wi lt n w hR hbase hl hn
    simpa [putF, kpf] using this
  · simp at hsh
    obtain ⟨rfl, hw⟩ := hsh
    have hbn := hb n hn
    rw [← hx] at hbn
    have := placeP_any base g cap l 5 wi n w hR hbase hl hn (IntWalk.i64_in _ (by omega))
    simpa [putF, kpf] using this
  · simp at hf2 hsh
    have hn1 : n + 1 < l.length := by
      unfold workF at hf2
      simp only [Bool.and_eq_true, decide_eq_true_eq] at hf2
      omega
    have := swapP_any base g cap l 6 wi lt n w hR hbase hl hn1
    simpa [putF, kpf] using this
end Go.Proofs.Ytfnklchhhojimaa
