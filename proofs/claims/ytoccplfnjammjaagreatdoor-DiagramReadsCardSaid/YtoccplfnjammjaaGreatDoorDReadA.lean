/- Merged: DReadM DReadS DReadP DRead. -/
import Derived.Test.YtoccplfnjammjaaGreatDoorDRRowA
set_option linter.unusedSimpArgs false
set_option linter.unusedVariables false
namespace Go.Proofs.YtoccplfnjammjaaGreatDoor
open Go Go.RowKit Tor

theorem okD_of {p : Nat} {l : List Tri} (h : sheetE p l = 0) : OkD p l := by
  have h0 := h
  unfold sheetE at h
  split at h
  · cases h
  rename_i h1
  split at h
  · cases h
  rename_i h2
  split at h
  · cases h
  rename_i h3
  simp only [not_or] at h1
  refine ⟨h0, by omega, by omega, ?_, by omega⟩
  intro k hk
  have := any_not (by simpa using h3) k hk
  simp only [badW, Bool.or_eq_false_iff, decide_eq_false_iff_not] at this
  omega
theorem lookP_err : ∀ (r acc : List (List UInt8)) (k : Nat), lookP acc r = .error k → k < r.length
  | [], acc, k, h => by simp [lookP] at h
  | s :: r, acc, k, h => by
    unfold lookP at h
    split at h
    · split at h
      · simp at h; subst h; simp
      · have := lookP_err r _ k h
        simp; omega
    · simp at h
theorem lookLn_len {n : Nat} {s x : List UInt8} (h : lookLn n s = some x) : n < 52 ∧ x.length ≤ s.length := by
  unfold lookLn at h
  split at h
  · cases h
  · rename_i a y ht
    split at h
    · rename_i hc
      simp at h; subst h
      exact ⟨hc.1, (threeP_len ht).2⟩
    · cases h
theorem lookP_ok : ∀ (r acc K r' : List (List UInt8)), lookP acc r = .ok (K, r') → acc.length ≤ 52 → (∀ x ∈ acc, x.length ≤ 1000000) → (∀ x ∈ r, x.length ≤ 1000000) → K.length ≤ 52 ∧ (∀ x ∈ K, x.length ≤ 1000000)
  | [], acc, K, r', h, h1, h2, h3 => by
    simp [lookP] at h; obtain ⟨rfl, rfl⟩ := h; exact ⟨h1, h2⟩
  | s :: r, acc, K, r', h, h1, h2, h3 => by
    unfold lookP at h
    split at h
    · split at h
      · cases h
      · rename_i x hx
        obtain ⟨g1, g2⟩ := lookLn_len hx
        have g3 := h3 s (by simp)
        refine lookP_ok r _ K r' h (by simp; omega) ?_ (fun y hy => h3 y (by simp [hy]))
        intro y hy
        rcases List.mem_append.1 hy with hy | hy
        · exact h2 y hy
        · simp at hy; subst hy; omega
    · simp at h; obtain ⟨rfl, rfl⟩ := h; exact ⟨h1, h2⟩
theorem rowW_len (p : Nat) (K : List (List UInt8)) (s : List UInt8) : ∀ (k q : Nat) (acc ws : List Tri), rowW p K s k q acc = some ws → ws.length ≤ acc.length + k
  | 0, q, acc, ws, h => by simp [rowW] at h; subst h; simp
  | k + 1, q, acc, ws, h => by
    unfold rowW at h
    split at h
    · simp at h; subst h; omega
    split at h
    · cases h
    split at h
    · have := rowW_len p K s k _ _ ws h; omega
    split at h
    · cases h
    split at h
    · cases h
    · have := rowW_len p K s k _ _ ws h; simp at this; omega
theorem rowP_len {p : Nat} {K : List (List UInt8)} {s : List UInt8} {ws : List Tri} (h : rowP p K s = some ws) : ws.length ≤ p := by
  unfold rowP at h
  split at h
  · have := rowW_len p K s p 0 [] ws h; simpa using this
  · cases h
/-- the words of a row's works are looks that were said -/
theorem rowW_words (p : Nat) (K : List (List UInt8)) (s : List UInt8) (hK : ∀ x ∈ K, x.length ≤ 1000000) : ∀ (k q : Nat) (acc ws : List Tri), rowW p K s k q acc = some ws → (∀ x ∈ acc, x.s.size ≤ 1000000) → ∀ x ∈ ws, x.s.size ≤ 1000000
  | 0, q, acc, ws, h, h2 => by simp [rowW] at h; subst h; exact h2
  | k + 1, q, acc, ws, h, h2 => by
    unfold rowW at h
    split at h
    · simp at h; subst h; exact h2
    split at h
    · cases h
    split at h
    · exact rowW_words p K s hK k _ _ ws h h2
    split at h
    · cases h
    split at h
    · cases h
    · rename_i n hn
      refine rowW_words p K s hK k _ _ ws h ?_
      intro y hy
      rcases List.mem_append.1 hy with hy | hy
      · exact h2 y hy
      · simp at hy; subst hy
        have hx : (K.getD n []).length ≤ 1000000 := by
          by_cases hl : n < K.length
          · have : K.getD n [] = K[n] := by rw [List.getD_eq_getElem?_getD, List.getElem?_eq_getElem hl]; rfl
            rw [this]; exact hK _ (List.getElem_mem hl)
          · rw [List.getD_eq_getElem?_getD, List.getElem?_eq_none (by omega)]; simp
        unfold workD
        split
        · show (bN []).size ≤ _; decide
        split
        · show (bN []).size ≤ _; decide
        · show (bN (K.getD n [])).size ≤ _; rw [bN_size]; exact hx
theorem rowP_words {p : Nat} {K : List (List UInt8)} {s : List UInt8} {ws : List Tri} (hK : ∀ x ∈ K, x.length ≤ 1000000) (h : rowP p K s = some ws) : ∀ x ∈ ws, x.s.size ≤ 1000000 := by
  unfold rowP at h
  split at h
  · exact rowW_words p K s hK p 0 [] ws h (by simp)
  · cases h
theorem rowsP_miss (p : Nat) (K : List (List UInt8)) (n : Nat) (acc : List Tri) (X : List (List UInt8)) (k : Nat) (h : X.length ≤ k) (hn : 0 < n) : rowsP p K n acc (X.drop k) = .error none := by
  obtain ⟨m, rfl⟩ : ∃ m, n = m + 1 := ⟨n - 1, by omega⟩
  rw [List.drop_eq_nil_of_le h]; rfl
theorem rowsP_step (p : Nat) (K : List (List UInt8)) (n : Nat) (acc : List Tri) (X : List (List UInt8)) (k : Nat) (h : k < X.length) (hn : 0 < n) : rowsP p K n acc (X.drop k) = match rowP p K (X.getD k []) with
    | none => .error (some (X.length - (k + 1)))
    | some ws => rowsP p K (n - 1) (acc ++ ws) (X.drop (k + 1)) := by
  obtain ⟨m, rfl⟩ : ∃ m, n = m + 1 := ⟨n - 1, by omega⟩
  have hg : X.getD k [] = X[k] := by rw [List.getD_eq_getElem?_getD, List.getElem?_eq_getElem h]; rfl
  rw [List.drop_eq_getElem_cons h, hg]
  show (match rowP p K X[k] with | none => _ | some ws => _) = _
  rw [List.length_drop]
  rfl
/-- what Draw answers at any sheet -/
def drawA (p : Nat) (l : List Tri) : List UInt8 × Int := if sheetE p l = 0 then drawE p l else ([], sheetE p l)
/-- what Read answers behind the lines -/
def readE (L : List UInt8) (X : List (List UInt8)) : Except (Nat × Int) (Nat × List Tri) :=
  match readD X with
  | .error n => .error (n, 6)
  | .ok (p, d) => if drawA p d = (L, 0) then .ok (p, d) else .error (0, 6)
def readA (L : List UInt8) : Except (Nat × Int) (Nat × List Tri) := if (linesP L).2 ≠ 0 then .error (0, (linesP L).2) else readE L (linesP L).1
/-- what Read returns -/
def RdRet (w : World) (R : Except (Nat × Int) (Nat × List Tri)) (e : Ending) (w' : World) : Prop :=
  Below w.heap.size w w' ∧ match R with
  | .error (n, c) => e = .returned (.tuple #[.agg #[.int .i64 0, .slice none 0 0], .int .i64 n, .int .i64 c])
  | .ok (p, d) => ∃ v, e = .returned (.tuple #[.agg #[.int .i64 p, v], .int .i64 0, .int .i64 0]) ∧ Own 3 Tri.enc w' w.heap.size 44 v d
theorem linesP_ok {L : List UInt8} (hL : L.length ≤ 1000000) : (linesP L).1.length ≤ 100000 ∧ ∀ s ∈ (linesP L).1, s.length ≤ 1000000 := by
  unfold linesP
  split
  · simp
  split
  · simp
  split
  · simp
  split
  · simp
  · rename_i h
    refine ⟨by show (linL L).length ≤ _; rw [linL_length]; omega, ?_⟩
    intro s hs
    have := spl_len 10 L s (List.dropLast_subset _ hs)
    omega
/-- Draw at any sheet -/
theorem drawA_any (p : Nat) (A : Option Addr) (l : List Tri) (c : Nat) (w : World) (H : Nat) (hr : RdT w H A l) (hH : H ≤ w.heap.size)
    (hw : ∀ (k : Nat) (hk : k < l.length), l[k].s.size ≤ 9223372036854775807) (hl : l.length ≤ 1000000) (hDt : DtAt w) :
    Calls Tryz.prog 14 #[.agg #[.int .i64 p, .slice A l.length c]] w (Ret (.tuple #[.string (bN (drawA p l).1), .int .i64 (drawA p l).2]) w) := by
  unfold drawA
  by_cases h : sheetE p l = 0
  · rw [if_pos h]; exact draw_any p A l c w H hr hH hw (okD_of h) hDt
  · rw [if_neg h]; exact draw_bad p A l c w H hr hH hw hl h
end Go.Proofs.YtoccplfnjammjaaGreatDoor

namespace Go.Proofs.YtoccplfnjammjaaGreatDoor
open Go Go.RowKit Tor

theorem blk_keptR {rb : Nat} {w w' : World} {g : Nat} {t : TypeId} {cs : Array Value} (h : Blk w g t cs) (k : KeptR rb w w') (hg : g ≠ rb) : Blk w' g t cs := (k.block g ⟨h.lt, hg⟩).trans h
theorem below_keptR {rb B : Nat} {w0 w w' : World} (h : Below B w0 w) (k : KeptR rb w w') (hr : B ≤ rb) (hs : B ≤ w.heap.size) : Below B w0 w' :=
  ⟨k.os.trans h.os, k.tape.trans h.tape, k.output.trans h.output, Nat.le_trans h.size k.size, fun j hj => (k.block j ⟨by omega, by omega⟩).trans (h.block j hj)⟩
/-- where Read stands: the reader at r.size, the pointer to it behind it, the result's cell at w.size -/
structure RdSt (w r : World) (AX : Option Addr) (cX : Nat) (X : List (List UInt8)) (k : Nat) (w' : World) : Prop where
  rd : RdrAt w' r.heap.size AX cX X k
  res : Blk w' w.heap.size 25 #[.int .i64 0, .slice none 0 0]
  ptr : w'.cell? ⟨r.heap.size + 1, 0, none⟩ = some (.pointer (some ⟨r.heap.size, 0, none⟩))
  e : RdE r w' r.heap.size AX X
  b : Below w.heap.size w w'
  n1 : w.heap.size < r.heap.size
  n2 : r.heap.size + 2 ≤ w'.heap.size
theorem RdSt.kept {w r : World} {AX : Option Addr} {cX : Nat} {X : List (List UInt8)} {k k' : Nat} {w' w'' : World} (h : RdSt w r AX cX X k w') (g : KeptR r.heap.size w' w'') (hR : RdrAt w'' r.heap.size AX cX X k') : RdSt w r AX cX X k' w'' := by
  have h1 := h.n1
  have h2 := h.n2
  exact ⟨hR, blk_keptR h.res g (by omega), g.cell (by omega) h.ptr, h.e.kept g, below_keptR h.b g (by omega) (by omega), h1, Nat.le_trans h2 g.size⟩
theorem RdSt.below {w r : World} {AX : Option Addr} {cX : Nat} {X : List (List UInt8)} {k : Nat} {w' w'' : World} (h : RdSt w r AX cX X k w') (g : Below w'.heap.size w' w'') : RdSt w r AX cX X k w'' := h.kept (KeptR.of_below g) (h.rd.below g)
/-- a block that is new is turned -/
theorem RdSt.far {w r : World} {AX : Option Addr} {cX : Nat} {X : List (List UInt8)} {k : Nat} {w' w'' : World} (h : RdSt w r AX cX X k w') (B : Nat) (hB : r.heap.size + 2 ≤ B) (g : Same (fun j => j < B) w' w'') : RdSt w r AX cX X k w'' := by
  have h1 := h.n1
  have h2 := h.n2
  have hd := h.e
  refine ⟨(g.block _ (by omega)).trans h.rd, (g.block _ (by omega)).trans h.res, (Same.cell g (p := ⟨r.heap.size + 1, 0, none⟩) (by show r.heap.size + 1 < B; omega)).trans h.ptr, ⟨⟨g.os.trans hd.b.os, g.tape.trans hd.b.tape, g.output.trans hd.b.output, Nat.le_trans hd.b.size g.size, fun j hj => (g.block j (by omega)).trans (hd.b.block j hj)⟩, hd.le, hd.dt, hd.hx⟩,
    ⟨g.os.trans h.b.os, g.tape.trans h.b.tape, g.output.trans h.b.output, Nat.le_trans h.b.size g.size, fun j hj => (g.block j (by omega)).trans (h.b.block j hj)⟩, h1, Nat.le_trans h2 g.size⟩
theorem RdSt.start {w w1 r : World} {AX : Option Addr} {cX : Nat} {X : List (List UInt8)} (hw : w1.heap.size = w.heap.size + 1) (hB1 : Below w.heap.size w w1) (kS : Blk r w.heap.size 25 #[.int .i64 0, .slice none 0 0]) (hB2 : Below w1.heap.size w1 r) (hD : DtAt r) (hx : Rd 1 tenc r r.heap.size AX X) :
    RdSt w r AX cX X 0 ((r.alloc (.cells #[.slice AX X.length cX, .int .i64 0] 65)).alloc (.cells #[.pointer (some ⟨r.heap.size, 0, none⟩)] 63)) := by
  have hz := hB2.size
  have hB3 : Below r.heap.size r ((r.alloc (.cells #[.slice AX X.length cX, .int .i64 0] 65)).alloc (.cells #[.pointer (some ⟨r.heap.size, 0, none⟩)] 63)) := ((Below.refl _ _).alloc (Nat.le_refl _) _).alloc (by simp) _
  refine ⟨(Blk.new r 65 #[.slice AX X.length cX, .int .i64 0]).alloc _, kS.below' hB3, ?_, ⟨hB3, Nat.le_refl _, hD, hx⟩, (hB1.trans (hB2.mono (by omega))).trans (hB3.mono (by omega)), by omega, by simp⟩

  simp
theorem RdSt.wrong {w r : World} {AX : Option Addr} {cX : Nat} {X : List (List UInt8)} {k : Nat} {w' : World} (h : RdSt w r AX cX X k w') :
    Calls Tryz.prog 33 #[.pointer (some ⟨r.heap.size + 1, 0, none⟩)] w' (Ret (.tuple #[.agg #[.int .i64 0, .slice none 0 0], .int .i64 (max k 1 : Nat), .int .i64 6]) w') := wrong_any _ AX cX X k w' h.rd _ h.ptr
/-- the result's cell is written, and it is what is returned -/
theorem RdSt.bad {w r : World} {AX : Option Addr} {cX : Nat} {X : List (List UInt8)} {k : Nat} {w' : World} (h : RdSt w r AX cX X k w') :
    Blk ((w'.setCell ⟨w.heap.size, 0, none⟩ (.int .i64 0)).setCell ⟨w.heap.size, 1, none⟩ (.slice none 0 0)) w.heap.size 25 #[.int .i64 0, .slice none 0 0] ∧
    Below w.heap.size w ((w'.setCell ⟨w.heap.size, 0, none⟩ (.int .i64 0)).setCell ⟨w.heap.size, 1, none⟩ (.slice none 0 0)) :=
  ⟨by simpa using (h.res.set_ 0 (.int .i64 0)).set_ 1 (.slice none 0 0), (h.b.setCell (Nat.le_refl _) _).setCell (Nat.le_refl _) _⟩
theorem own_none {α : Type} {sz : Nat} {enc : α → List Value} {w : World} {base : Nat} {e : TypeId} {n c : Nat} {l : List α} (h : Own sz enc w base e (.slice none n c) l) : c = 0 := by
  rcases h.2 with h | ⟨g, cap, cur, h, _⟩
  · obtain ⟨h, _⟩ := h; cases h; rfl
  · simp at h
/-- append of all of another slice, which may be nil -/
theorem wpList_append_tris {P : Program} {ops : Array Oper} {rest : List Oper} {o : Oper} {a : Act} {Q : Exit → Act → World → Prop} {w : World} (hgd : o.guard = none) (s x : Operand) (t : TypeId)
    (ho : o.op = .call { callee := .builtin .append, args := #[s, x], argTypes := #[t, t] })
    (base : Nat) (e : TypeId) (i : TypeInfo) (z : Value) (ht : P.underlying t = some (.slice e)) (hi : P.info? e = some i) (hz : i.zero = some z) (hsize : i.size = 3) (hby : i.bytes = 32) (hzs : z.cells.size = 3)
    (v : Value) (acc : List Tri) (hs : a.eval s = v) (hown : Own 3 Tri.enc w base e v acc)
    (ao : Option Addr) (ws : List Tri) (c H : Nat) (hx : a.eval x = .slice ao ws.length c) (hnone : ao = none → c = 0) (hr : RdT w H ao ws) (hl1 : acc.length ≤ 1000000) (hl2 : ws.length ≤ 1000000) (hbase : base ≤ w.heap.size)
    (h : ∀ v' w', Own 3 Tri.enc w' base e v' (acc ++ ws) → w.grownBy w' v.ownBlock → wpList P ops Q rest (a.put o.dst v') w') : wpList P ops Q (o :: rest) a w := by
  cases ao with
  | some ax =>
    refine wpList_append_own w hgd s x t ho base e i z 3 32 ht hi hz hsize hby hzs (by omega) v acc.length (acc.flatMap Tri.enc) hs hown ax ws.length c (ws.flatMap Tri.enc) hx (flat_len ws) (rdT_news' hr) (flat_one ws) (by unfold maxLen; omega) (by omega) hbase ?_
    intro v' w' h1 h2 _
    refine h v' w' ?_ h2
    unfold Own
    rw [List.length_append, List.flatMap_append]; exact h1
  | none =>
    have hc := hnone rfl
    subst hc
    have hw0 : ws = [] := by
      cases ws with
      | nil => rfl
      | cons y r => obtain ⟨b, o, e, _⟩ := hr (by simp); cases e
    subst hw0
    refine wpList_plain hgd fun K hK' => ?_
    have hrun := run_append_owned_none (P := P) w base t o.type e i 3 ht hi _ acc.length (acc.flatMap Tri.enc) hown
    rw [List.length_nil] at hx
    unfold Oper.wp
    simp [execOp, ho, resolve, invoke, builtin, hs, hx, hrun, Result.andThen]
    exact hK' _ _ (h v w (by simpa using hown) (World.grownBy.refl _ _))
theorem rd_keptR {rb : Nat} {w w' : World} {H : Nat} {A : Option Addr} {l : List (List UInt8)} (h : Rd 1 tenc w H A l) (k : KeptR rb w w') (hA : ∀ a, A = some a → a.block ≠ rb) (hH : H ≤ w.heap.size) : Rd 1 tenc w' H A l := fun hne => by
  obtain ⟨b, o, e, hb, hc⟩ := h hne
  exact ⟨b, o, e, hb, fun i x hx j u hu => (Same.cell k (p := ⟨b, o + i * 1 + j, none⟩) ⟨by show b < _; omega, hA ⟨b, o, none⟩ e⟩).trans (hc i x hx j u hu)⟩
theorem own_keptR {α : Type} {sz : Nat} {enc : α → List Value} {rb : Nat} {w w' : World} {base : Nat} {e : TypeId} {v : Value} {l : List α} (h : Own sz enc w base e v l) (k : KeptR rb w w') (hr : rb < base) : Own sz enc w' base e v l :=
  Own.same h k fun g hv => by
    have := World.ownsRow.lt h g hv
    exact ⟨this.2, by omega⟩
theorem same_grown {B : Nat} {w w' : World} {v : Value} (hg : w.grownBy w' v.ownBlock) (hs : B ≤ w.heap.size) (hv : ∀ k, v.ownBlock = some k → B ≤ k) : Same (fun j => j < B) w w' :=
  ⟨hg.os, hg.tape, hg.output, hg.size, fun k hk => hg.block k (by omega) (fun e => by have := hv k e.symm; omega)⟩
theorem same_set {B : Nat} {w w' : World} (h : Same (fun j => j < B) w w') (g i : Nat) (hg : B ≤ g) (v : Value) : Same (fun j => j < B) w (w'.setCell ⟨g, i, none⟩ v) :=
  ⟨h.os, h.tape, h.output, by simpa using h.size, fun k hk => (Below.heap_setCell w' ⟨g, i, none⟩ v k (by show k ≠ g; omega)).trans (h.block k hk)⟩
end Go.Proofs.YtoccplfnjammjaaGreatDoor

namespace Go.Proofs.YtoccplfnjammjaaGreatDoor
open Go Go.RowKit Tor

theorem intW_bd {s : List UInt8} {a b : Int} (h : (intW s a b).2 = 0) : a ≤ (intW s a b).1 ∧ (intW s a b).1 ≤ b := by
  unfold intW at h ⊢
  split at h
  · cases h
  rename_i h1
  rw [if_neg h1]
  split at h
  · cases h
  rename_i h2
  rw [if_neg h2]
  split at h
  · cases h
  rename_i h3
  rw [if_neg h3]
  simp only [not_or] at h3
  show a ≤ valB s ∧ valB s ≤ b
  omega
theorem headR_bd (X : List (List UInt8)) : (headR X).2.2 = true → ∃ P N : Nat, 0 < X.length ∧ 2 ≤ P ∧ P ≤ 24 ∧ N ≤ 400 ∧ (headR X).1 = (P : Int) ∧ (headR X).2.1 = (N : Int) := by
  intro h
  cases X with
  | nil => cases h
  | cons s r =>
    simp only [headR] at h ⊢
    split at h
    · cases h
    · rename_i a b hab
      simp only [Bool.and_eq_true, decide_eq_true_eq] at h ⊢
      have h1 := intW_bd h.1
      have h2 := intW_bd h.2
      exact ⟨(intW a 2 24).1.toNat, (intW b 0 400).1.toNat, by simp, by omega, by omega, by omega, by omega, by omega⟩
theorem getD_len {X : List (List UInt8)} (h : ∀ s ∈ X, s.length ≤ 1000000) {k : Nat} : (X.getD k []).length ≤ 1000000 := by
  by_cases hl : k < X.length
  · have : X.getD k [] = X[k] := by rw [List.getD_eq_getElem?_getD, List.getElem?_eq_getElem hl]; rfl
    rw [this]; exact h _ (List.getElem_mem hl)
  · rw [List.getD_eq_getElem?_getD, List.getElem?_eq_none (by omega)]; simp
/-- the end of Read -/
def endE (L : List UInt8) (p : Nat) (d : List Tri) : Except (Nat × Int) (Nat × List Tri) := if drawA p d = (L, 0) then .ok (p, d) else .error (0, 6)
def rowsE (L : List UInt8) (n p : Nat) (R : Except (Option Nat) (List Tri × List (List UInt8))) : Except (Nat × Int) (Nat × List Tri) :=
  match R with
  | .error none => .error (n + 1, 6)
  | .error (some k) => .error (n - k, 6)
  | .ok (d, []) => endE L p d
  | .ok (_, _ :: r3) => .error (n - r3.length, 6)
theorem readE_eq (L : List UInt8) (X : List (List UInt8)) : readE L X = if (headR X).2.2 = false then .error (1, 6) else
    match lookP [] (X.drop 1) with
    | .error k => .error (X.length - k, 6)
    | .ok (K, r) => rowsE L X.length (headR X).1.toNat (rowsP (headR X).1.toNat K (headR X).2.1.toNat [] r) := by
  unfold readE readD
  cases X with
  | nil => rfl
  | cons s r =>
    rcases h0 : threeP s dgB with _ | ⟨a, b⟩
    · simp only [headR, h0]; rfl
    · simp only [headR, h0]
      by_cases h : (intW a 2 24).2 ≠ 0 ∨ (intW b 0 400).2 ≠ 0
      · rw [if_pos h, if_pos]
        rcases h with h | h <;> simp [h]
      · rw [if_neg h, if_neg]
        · rw [show (s :: r).drop 1 = r from rfl]
          rcases h1 : lookP [] r with k | ⟨K, r2⟩
          · rfl
          · simp only []
            rcases h2 : rowsP (intW a 2 24).1.toNat K (intW b 0 400).1.toNat [] r2 with o | ⟨d, q⟩
            · cases o <;> rfl
            · cases q <;> rfl
        · simp only [not_or, Decidable.not_not] at h
          simp [h.1, h.2]
end Go.Proofs.YtoccplfnjammjaaGreatDoor

namespace Go.Proofs.YtoccplfnjammjaaGreatDoor
open Go Go.RowKit Tor
set_option maxRecDepth 100000 in
set_option maxHeartbeats 16000000 in
theorem read_any (L : List UInt8) (hL : L.length ≤ 1000000) (w : World) (hDt : DtAt w) : Calls Tryz.prog 11 #[.string (bN L)] w (RdRet w (readA L)) := by
  obtain ⟨i0, hi0, hz0', hz1', hz2'⟩ := info_parts infoWork
  have hB1 : Below w.heap.size w (w.alloc (.cells #[.int .i64 0, .slice none 0 0] 25)) := (Below.refl _ _).alloc (Nat.le_refl _) _
  have kS1 : Blk (w.alloc (.cells #[.int .i64 0, .slice none 0 0] 25)) w.heap.size 25 #[.int .i64 0, .slice none 0 0] := Blk.new w _ _
  have HL := Lib.hid (wlines_any L (w.alloc (.cells #[.int .i64 0, .slice none 0 0] 25)) (by omega) (hDt.below hB1))
  obtain ⟨hX1, hX2⟩ := linesP_ok hL
  obtain ⟨RA, hRA⟩ : ∃ RA, Hid (readA L = RA) := ⟨_, Lib.hid rfl⟩
  have hRA2 : Hid (RA = if (linesP L).2 ≠ 0 then .error (0, (linesP L).2) else readE L (linesP L).1) := Lib.hid hRA.out.symm
  rw [hRA.out]
  obtain ⟨X, hX⟩ : ∃ X, (linesP L).1 = X := ⟨_, rfl⟩
  obtain ⟨E0, hE0⟩ : ∃ E0, (linesP L).2 = E0 := ⟨_, rfl⟩
  rw [hX, hE0] at HL hRA2
  rw [hX] at hX1 hX2
  clear hX hE0
  have HX2 := Lib.hid hX2
  clear hX2
  obtain ⟨w1, hw1⟩ : ∃ w1, Hid ((w.alloc (.cells #[.int .i64 0, .slice none 0 0] 25)) = w1) := ⟨_, Lib.hid rfl⟩
  have hws : w1.heap.size = w.heap.size + 1 := by rw [← hw1.out]; simp
  rw [hw1.out] at HL hB1 kS1
  go_enter Tryz.func11, Tryz.ntmps11
  by_cases hE : E0 = 0
  · have hf := hRA2.out
    rw [if_neg (by simpa using hE)] at hf
    have hf2 := hf
    rw [readE_eq] at hf2
    have HF := Lib.hid hf2
    clear hf hf2 hRA2
    subst hE
    obtain ⟨⟨ha, hn, hf⟩, hHD⟩ : ∃ h, Hid (headR X = h) := ⟨_, Lib.hid rfl⟩
    have hbd := headR_bd X
    rw [hHD.out] at hbd
    have HF1 := HF.out
    rw [hHD.out] at HF1
    simp only [] at HF1
    cases hf with
    | false =>
      rw [if_pos rfl] at HF1
      have HG := Lib.hid HF1
      clear HF1 HF hbd
      go_wp2_with (first
        | (go_at_call 32; rw [hw1.out]; refine HL.out.mono ?_; rintro e w2 ⟨v, rfl, hown, hB2⟩
           obtain ⟨AX, cX, rfl, hcX, hrd⟩ := Own.rd tenc_len hown
           have kS2 := kS1.below' hB2
           have hD2 : DtAt w2 := (hDt.below hB1).below hB2
           have hs0 := RdSt.start hws hB1 kS2 hB2 hD2 hrd (cX := cX)
           have hd0 := HX2.out
           have hd1 : (X.getD 0 []).length ≤ 1000000 := getD_len hd0
           clear hd0)
        | (go_at_call 34; refine (head_any w2 _ AX cX X _ hs0.rd hs0.e hX1 hd1).mono ?_; rintro e w4 ⟨rfl, hR4, hK4⟩; rw [hHD.out]; simp only []
           have hs1 := hs0.kept hK4 hR4
           have hp1 := hs1.ptr
           clear hs0 hR4 hK4)
        | (go_at_call 33; refine hs1.wrong.mono ?_; rintro e w5 ⟨rfl, hBw5⟩
           have hs2 := hs1.below hBw5
           have s0 := hs2.res.cell 0 _ rfl
           have s1 := hs2.res.cell 1 _ rfl
           have f0 := hs2.res.frozen 0
           have f1 := hs2.res.frozen 1
           have sl := hs2.res.lt)
        | fail)
      have hmx : max (min X.length 1) 1 = 1 := by omega
      rw [hmx] at *
      (try simp only [Exit.inBlock, Exit.then])
      refine sheet_ret rfl rfl (g := w.heap.size) (x := .int .i64 0) (y := .slice none 0 0) hs2.bad.1 rfl ?_
      rw [HG.out]
      exact ⟨hs2.bad.2, by first | rfl | (congr 1; simp; omega)⟩
    | true =>
      rw [if_neg (by simp)] at HF1
      obtain ⟨P, N, hN0, h2, h24, h400, rfl, rfl⟩ := hbd rfl
      simp only [Int.toNat_natCast] at HF1
      have hmin : min X.length 1 = 1 := by omega
      cases hLP : lookP [] (X.drop 1) with
      | error k =>
        rw [hLP] at HF1
        simp only [] at HF1
        have HG := Lib.hid HF1
        have hk := lookP_err _ _ _ hLP
        rw [List.length_drop] at hk
        have HLP := Lib.hid hLP
        clear HF1 HF hLP hbd
        go_wp2_with (first
          | (go_at_call 32; rw [hw1.out]; refine HL.out.mono ?_; rintro e w2 ⟨v, rfl, hown, hB2⟩
             obtain ⟨AX, cX, rfl, hcX, hrd⟩ := Own.rd tenc_len hown
             have kS2 := kS1.below' hB2
             have hD2 : DtAt w2 := (hDt.below hB1).below hB2
             have hs0 := RdSt.start hws hB1 kS2 hB2 hD2 hrd (cX := cX)
             have hd0 := HX2.out
             have hd1 : (X.getD 0 []).length ≤ 1000000 := getD_len hd0
             clear hd0)
          | (go_at_call 34; refine (head_any w2 _ AX cX X _ hs0.rd hs0.e hX1 hd1).mono ?_; rintro e w4 ⟨rfl, hR4, hK4⟩; rw [hHD.out]; simp only []
             have hs1 := hs0.kept hK4 hR4
             have hp1 := hs1.ptr
             clear hs0 hR4 hK4)
          | (go_at_call 35; refine (rlooks_any w2 _ AX cX X 1 _ (by have := hs1.rd; rw [hmin] at this; exact this) hs1.e hX1 (by omega) HX2.out).mono ?_; intro e w5 hlk; unfold LkRet at hlk; rw [HLP.out] at hlk
             obtain ⟨rfl, hR5, _, hK5⟩ := hlk
             have hs2 := hs1.kept hK5 hR5
             have hp2 := hs2.ptr
             clear hs1 hp1 hR5 hK5)
          | (go_at_call 33; refine hs2.wrong.mono ?_; rintro e w6 ⟨rfl, hBw6⟩
             have hs3 := hs2.below hBw6
             have s0 := hs3.res.cell 0 _ rfl
             have s1 := hs3.res.cell 1 _ rfl
             have f0 := hs3.res.frozen 0
             have f1 := hs3.res.frozen 1
             have sl := hs3.res.lt)
          | fail)
        have hmx : max (X.length - k) 1 = X.length - k := by omega
        rw [hmx] at *
        (try simp only [Exit.inBlock, Exit.then])
        refine sheet_ret rfl rfl (g := w.heap.size) (x := .int .i64 0) (y := .slice none 0 0) hs3.bad.1 rfl ?_
        rw [HG.out]
        exact ⟨hs3.bad.2, by first | rfl | (congr 1; simp; omega)⟩
      | ok Kr =>
        obtain ⟨K, r⟩ := Kr
        rw [hLP] at HF1
        simp only [] at HF1
        obtain ⟨hK52, hKl⟩ := lookP_ok _ _ _ _ hLP (by simp) (by simp) (fun x hx => HX2.out x (List.mem_of_mem_drop hx))
        have HLP := Lib.hid hLP
        have HKL := Lib.hid hKl
        have HF2 := Lib.hid HF1
        clear HF1 HF hLP hKl hbd
        go_wp2_with (first
          | (go_at_call 32; rw [hw1.out]; refine HL.out.mono ?_; rintro e w2 ⟨v, rfl, hown, hB2⟩
             obtain ⟨AX, cX, rfl, hcX, hrd⟩ := Own.rd tenc_len hown
             have kS2 := kS1.below' hB2
             have hD2 : DtAt w2 := (hDt.below hB1).below hB2
             have hs0 := RdSt.start hws hB1 kS2 hB2 hD2 hrd (cX := cX)
             have hd0 := HX2.out
             have hd1 : (X.getD 0 []).length ≤ 1000000 := getD_len hd0
             clear hd0)
          | (go_at_call 34; refine (head_any w2 _ AX cX X _ hs0.rd hs0.e hX1 hd1).mono ?_; rintro e w4 ⟨rfl, hR4, hK4⟩; rw [hHD.out]; simp only []
             have hs1 := hs0.kept hK4 hR4
             have hp1 := hs1.ptr
             clear hs0 hR4 hK4)
          | (go_at_call 35; refine (rlooks_any w2 _ AX cX X 1 _ (by have := hs1.rd; rw [hmin] at this; exact this) hs1.e hX1 (by omega) HX2.out).mono ?_; intro e w5 hlk; unfold LkRet at hlk; rw [HLP.out] at hlk
             obtain ⟨vK, rfl, hoK, hR5, hr5, hrX, hK5⟩ := hlk
             have hs2 := hs1.kept hK5 hR5
             have hp2 := hs2.ptr
             have hn4 := hs1.n2
             have hz5 := hK5.size
             obtain ⟨AK, cK, rfl, hcK, hrK⟩ := Own.rd tenc_len hoK
             have hAK : ∀ a, AK = some a → a.block ≠ w2.heap.size := fun a ha => by
               subst ha
               have := (World.ownsRow.lt hoK a.block rfl).1
               omega
             clear hs1 hp1 hR5 hK5 hoK)
          | fail)
        have hsz5 := hs2.n2
        obtain ⟨wA, hwA⟩ : ∃ wA, Hid (w5.alloc (.cells #[.int .i64 P, .slice none 0 0] 25) = wA) := ⟨_, Lib.hid rfl⟩
        have hBA : Below w5.heap.size w5 wA := by rw [← hwA.out]; exact (Below.refl _ _).alloc (Nat.le_refl _) _
        have kBA : Blk wA w5.heap.size 25 #[.int .i64 P, .slice none 0 0] := by rw [← hwA.out]; exact Blk.new w5 _ _
        have hsA := hs2.below hBA
        have hrKA : Rd 1 tenc wA w5.heap.size AK K := hrK.below' hBA (Nat.le_refl _)
        have hnA : w5.heap.size + 1 ≤ wA.heap.size := kBA.lt
        obtain ⟨k0, hk0⟩ : ∃ k, k = X.length - r.length := ⟨_, rfl⟩
        rw [← hk0] at hsA hrX
        have HF3 : Hid (RA = rowsE L X.length P (rowsP P K N [] (X.drop k0))) := Lib.hid (by rw [← hrX]; exact HF2.out)
        have hk0' : k0 ≤ X.length := by omega
        rw [hwA.out]
        (try clear hs2)
        (try clear hp2)
        (try clear HF2)
        (try clear hBA)
        (try clear hrK)
        (try clear hwA)
        (try clear HLP)
        (try clear hLPx)
        (try clear hr5)
        (try clear hrX)
        (try clear hk0)
        (try clear hHD)
        (try clear hmin)
        (try clear hcK)
        (try clear hn4)
        (try clear hz5)
        (try clear kS2)
        (try clear hB2)
        (try clear hd1)
        (try clear hrd)
        (try clear hcX)
        (try clear hown)
        (try clear hD2)
        go_loopw [59] (fun i wr => ∃ (q k : Nat) (v : Value) (acc : List Tri), q ≤ N ∧ i = .int .i64 q ∧ k ≤ X.length ∧ RdSt w w2 AX cX X k wr ∧ Blk wr w5.heap.size 25 #[.int .i64 P, v] ∧ Own 3 Tri.enc wr (w5.heap.size + 1) 44 v acc ∧ acc.length ≤ 24 * q ∧ Hid (∀ x ∈ acc, x.s.size ≤ 1000000) ∧ Rd 1 tenc wr w5.heap.size AK K ∧ Hid (RA = rowsE L X.length P (rowsP P K (N - q) acc (X.drop k)))) (fun i _ => N - (intOf i).toNat)
        case atStart => exact ⟨0, k0, .slice none 0 0, [], Nat.zero_le _, rfl, hk0', hsA, kBA, Own.nil _ _ _, by simp, Lib.hid (by simp), hrKA, HF3⟩
        case round =>
          obtain ⟨q, k, v, acc, hqN, rfl, hk, hst, kB, hown, hacc, hwd, hrKr, hRows⟩ := hrel
          obtain ⟨Av, cv, rfl, hcv, hrv⟩ := Own.rd tri_len hown
          have hn1 := hst.n1
          have hp := hst.ptr
          have c1 := hst.rd.cell 1 _ rfl
          have rl := hst.rd.lt
          have s0 := hst.res.cell 0 _ rfl
          have s1 := hst.res.cell 1 _ rfl
          have f0 := hst.res.frozen 0
          have f1 := hst.res.frozen 1
          have sl := hst.res.lt
          have bl := kB.lt
          have b0 := kB.cell 0 _ rfl
          have b1 := kB.cell 1 _ rfl
          by_cases hlt : q < N
          · have i0' : (q : Int) < (N : Int) := by omega
            have e1 : IntKind.i64.wrap ((q : Int) + 1) = (q : Int) + 1 := IntWalk.i64_in _ (by omega)
            by_cases hke : k = X.length
            · have hg := hRows.out
              rw [rowsP_miss _ _ _ _ _ _ (by omega) (by omega)] at hg
              have HG := Lib.hid hg
              clear hg hRows
              have z1 : ((k : Int) == (X.length : Int)) = true := by simp; omega
              have z1p : (k : Int) = (X.length : Int) := by omega
              have e2 : IntKind.i64.wrap ((X.length : Int) + 1) = (X.length : Int) + 1 := IntWalk.i64_in _ (by omega)
              clear z1p hke
              go_wp2_with fail
              (try simp only [Exit.inBlock, Exit.then])
              refine sheet_ret rfl rfl (g := w.heap.size) (x := .int .i64 0) (y := .slice none 0 0) hst.bad.1 rfl ?_
              rw [HG.out]
              exact ⟨hst.bad.2, rfl⟩
            · have z1 : ((k : Int) == (X.length : Int)) = false := by rw [beq_eq_false_iff_ne]; omega
              have hkl : k < X.length := by omega
              have hg := hRows.out
              rw [rowsP_step _ _ _ _ _ _ hkl (by omega)] at hg
              have HROW := Lib.hid (rrow_any w2 w2.heap.size AX cX X k wr hst.rd hst.e hX1 hkl HX2.out P h2 h24 AK K cK w5.heap.size hrKr (by omega) hAK hK52 HKL.out)
              unfold RwRet at HROW
              cases hrow : rowP P K (X.getD k []) with
              | none =>
                rw [hrow] at hg HROW
                simp only [rowsE] at hg
                have HG := Lib.hid hg
                clear hg hRows hrow hke
                go_wp2_with (first
                  | (go_at_call 36; refine HROW.out.mono ?_; rintro e w6 ⟨hR6, hK6, rfl⟩
                     have hs6 := hst.kept hK6 hR6
                     have hp6 := hs6.ptr)
                  | (go_at_call 33; refine hs6.wrong.mono ?_; rintro e w7 ⟨rfl, hBw7⟩
                     have hs7 := hs6.below hBw7
                     have s0 := hs7.res.cell 0 _ rfl
                     have s1 := hs7.res.cell 1 _ rfl
                     have f0 := hs7.res.frozen 0
                     have f1 := hs7.res.frozen 1
                     have sl := hs7.res.lt)
                  | fail)
                have hmx : max (k + 1) 1 = X.length - (X.length - (k + 1)) := by omega
                rw [hmx] at *
                (try simp only [Exit.inBlock, Exit.then])
                refine sheet_ret rfl rfl (g := w.heap.size) (x := .int .i64 0) (y := .slice none 0 0) hs7.bad.1 rfl ?_
                rw [HG.out]
                exact ⟨hs7.bad.2, by first | rfl | (congr 1; simp; omega)⟩
              | some ws =>
                rw [hrow] at hg HROW
                simp only [] at hg
                have HG := Lib.hid hg
                have hwl := rowP_len hrow
                have hww := Lib.hid (rowP_words HKL.out hrow)
                clear hg hRows hrow hke s0 s1 f0 f1 sl
                go_wp2_with (first
                  | (go_at_call 36; refine HROW.out.mono ?_; rintro e w6 ⟨hR6, hK6, vw, rfl, how⟩
                     have hs6 := hst.kept hK6 hR6
                     have hz6 := hK6.size
                     have kB6 := blk_keptR kB hK6 (by omega)
                     have ho6 := own_keptR hown hK6 (by omega)
                     have hrK6 := rd_keptR hrKr hK6 hAK (by omega)
                     have hp6 := hs6.ptr
                     have d0 := kB6.cell 0 _ rfl
                     have d1 := kB6.cell 1 _ rfl
                     have d2 := kB6.frozen 1
                     have dl := kB6.lt
                     obtain ⟨Aw, cw, rfl, hcw, hrw⟩ := Own.rd tri_len how)
                  | (at_builtin; refine wpList_append_tris rfl (.tmp 87) (.tmp 88) _ rfl (w5.heap.size + 1) _ i0 _ Tryz.underlying23 hi0 hz0' hz1' hz2' rfl (.slice Av acc.length cv) acc rfl ho6 Aw ws cw w6.heap.size rfl (fun h => own_none (h ▸ how)) hrw (by omega) (by omega) (by omega) ?_
                     intro v8 w8 ho8 hg8
                     obtain ⟨A8, n8, c8, rfl⟩ : ∃ A n c, v8 = .slice A n c := by
                       rcases ho8.2 with ⟨h, _⟩ | ⟨g, cap, cur, h, _⟩
                       · exact ⟨_, _, _, h⟩
                       · exact ⟨_, _, _, h⟩
                     have kB8 := kB6.grown hg8 (Own.ne_block ho6 kB6 (by decide))
                     have t0 := kB8.cell 0 _ rfl
                     have t1 := kB8.cell 1 _ rfl
                     have t2 := kB8.frozen 1
                     have tl := kB8.lt)
                  | fail)
                have hSm := same_set (same_grown (B := w5.heap.size) hg8 (by omega) (fun k hk => by have := (World.ownsRow.lt ho6 k hk).1; omega)) w5.heap.size 1 (Nat.le_refl _) (.slice A8 n8 c8)
                go_roundw
                case rel => exact ⟨q + 1, k + 1, .slice A8 n8 c8, acc ++ ws, by omega, by go_num, by omega, hs6.far w5.heap.size (by omega) hSm, by simpa using kB8.set_ 1 (.slice A8 n8 c8), ownsRow_setCell_below ho8 (by simp) _, by simp; omega, Lib.hid (fun x hx => by rcases List.mem_append.1 hx with h | h; exact hwd.out x h; exact hww.out x h), hrK6.keep (fun p hp => Same.cell hSm hp), by rw [show N - (q + 1) = N - q - 1 from by omega]; exact HG⟩
                case measure => simp [intOf]; omega
          · have i0' : ¬ (q : Int) < (N : Int) := by omega
            have hqe : N - q = 0 := by omega
            have hg := hRows.out
            rw [hqe] at hg
            by_cases hkl : k < X.length
            · have i1 : (k : Int) < (X.length : Int) := by omega
              have hX3 : X.drop k = X[k] :: X.drop (k + 1) := List.drop_eq_getElem_cons hkl
              rw [hX3] at hg
              simp only [rowsP, rowsE, List.length_drop] at hg
              have HG := Lib.hid hg
              clear hg hRows hX3 hqe
              have e2 : IntKind.i64.wrap ((k : Int) + 1) = (k : Int) + 1 := IntWalk.i64_in _ (by omega)
              go_wp2_with fail
              go_region
              go_wp2_with fail
              (try simp only [Exit.inBlock, Exit.then])
              refine sheet_ret rfl rfl (g := w.heap.size) (x := .int .i64 0) (y := .slice none 0 0) hst.bad.1 rfl ?_
              rw [HG.out]
              have hbb := hst.bad.2
              exact ⟨⟨hbb.os, hbb.tape, hbb.output, hbb.size, hbb.block⟩, by first | rfl | (congr 1; simp; omega)⟩
            · have i1 : ¬ (k : Int) < (X.length : Int) := by omega
              have hX3 : X.drop k = [] := List.drop_eq_nil_of_le (by omega)
              rw [hX3] at hg
              simp only [rowsP, rowsE, endE] at hg
              have HDR := Lib.hid (fun (H : DtAt wr) (hr : RdT wr wr.heap.size Av acc) => drawA_any P Av acc cv wr wr.heap.size hr (Nat.le_refl _) (fun i hi => by have := hwd.out _ (List.getElem_mem hi); omega) (by omega) H)
              have HDR2 := Lib.hid (HDR.out hst.e.dta hrv)
              clear HDR hRows hX3 hqe
              obtain ⟨⟨T, E⟩, hTE⟩ : ∃ d, drawA P acc = d := ⟨_, rfl⟩
              rw [hTE] at hg HDR2
              simp only [] at HDR2
              by_cases hE0 : E = 0
              · by_cases hT : T = L
                · subst hE0
                  subst hT
                  rw [if_pos rfl] at hg
                  have HG := Lib.hid hg
                  clear hg hTE
                  have tT := bN_toList T
                  clear s0 s1 f0 f1 sl
                  go_wp2_with (first
                    | (go_at_call 14; refine HDR2.out.mono ?_; rintro e w9 ⟨rfl, hB9⟩
                       have hs9 := hst.below hB9
                       have s0 := hs9.res.cell 0 _ rfl
                       have s1 := hs9.res.cell 1 _ rfl
                       have f0 := hs9.res.frozen 0
                       have f1 := hs9.res.frozen 1
                       have sl := hs9.res.lt
                       have k9 := kB.below' hB9
                       have g0 := k9.cell 0 _ rfl
                       have g1 := k9.cell 1 _ rfl
                       have gl := k9.lt
                       have o9 := hown.below hB9)
                    | fail)
                  (try simp only [Exit.inBlock, Exit.then])
                  refine sheet_ret rfl rfl (g := w.heap.size) (x := .int .i64 P) (y := .slice Av acc.length cv) (by simpa using (hs9.res.set_ 0 (.int .i64 P)).set_ 1 (.slice Av acc.length cv)) rfl ?_
                  rw [HG.out]
                  exact ⟨(hs9.b.setCell (Nat.le_refl _) _).setCell (Nat.le_refl _) _, _, rfl, Own.base (ownsRow_setCell_below (ownsRow_setCell_below o9 (by simp; omega) _) (by simp; omega) _) (by omega)⟩
                · have q1 : (T == L) = false := beq_eq_false_iff_ne.2 hT
                  have tT := bN_toList T
                  have tL := bN_toList L
                  subst hE0
                  rw [if_neg (by simp [hT])] at hg
                  have HG := Lib.hid hg
                  clear hg hTE hT s0 s1 f0 f1 sl
                  go_wp2_with (first
                    | (go_at_call 14; refine HDR2.out.mono ?_; rintro e w9 ⟨rfl, hB9⟩
                       have hs9 := hst.below hB9
                       have s0 := hs9.res.cell 0 _ rfl
                       have s1 := hs9.res.cell 1 _ rfl
                       have f0 := hs9.res.frozen 0
                       have f1 := hs9.res.frozen 1
                       have sl := hs9.res.lt
                       have k9 := kB.below' hB9
                       have g0 := k9.cell 0 _ rfl
                       have g1 := k9.cell 1 _ rfl
                       have gl := k9.lt
                       have o9 := hown.below hB9)
                    | fail)
                  (try simp only [Exit.inBlock, Exit.then])
                  refine sheet_ret rfl rfl (g := w.heap.size) (x := .int .i64 0) (y := .slice none 0 0) hs9.bad.1 rfl ?_
                  rw [HG.out]
                  exact ⟨hs9.bad.2, rfl⟩
              · have z1 : (E == 0) = false := by simpa using hE0
                have z2 : (E != 0) = true := by simpa using hE0
                rw [if_neg (by simp [hE0])] at hg
                have HG := Lib.hid hg
                clear hg hTE s0 s1 f0 f1 sl
                go_wp2_with (first
                  | (go_at_call 14; refine HDR2.out.mono ?_; rintro e w9 ⟨rfl, hB9⟩
                     have hs9 := hst.below hB9
                     have s0 := hs9.res.cell 0 _ rfl
                     have s1 := hs9.res.cell 1 _ rfl
                     have f0 := hs9.res.frozen 0
                     have f1 := hs9.res.frozen 1
                     have sl := hs9.res.lt
                     have k9 := kB.below' hB9
                     have g0 := k9.cell 0 _ rfl
                     have g1 := k9.cell 1 _ rfl
                     have gl := k9.lt
                     have o9 := hown.below hB9)
                  | fail)
                (try simp only [Exit.inBlock, Exit.then])
                refine sheet_ret rfl rfl (g := w.heap.size) (x := .int .i64 0) (y := .slice none 0 0) hs9.bad.1 rfl ?_
                rw [HG.out]
                exact ⟨hs9.bad.2, rfl⟩
  · have hf := hRA2.out
    rw [if_pos hE] at hf
    have HF := Lib.hid hf
    clear hf hRA2
    have z0 : (E0 == 0) = false := by simpa using hE
    have z0n : (E0 != 0) = true := by simpa using hE
    go_wp2_with (first
      | (go_at_call 32; rw [hw1.out]; refine HL.out.mono ?_; rintro e w2 ⟨v, rfl, hown, hB2⟩
         have kS2 := kS1.below' hB2
         have s0 := kS2.cell 0 _ rfl
         have s1 := kS2.cell 1 _ rfl
         have f0 := kS2.frozen 0
         have f1 := kS2.frozen 1
         have sl := kS2.lt)
      | fail)
    (try simp only [Exit.inBlock, Exit.then])
    refine sheet_ret rfl rfl (g := w.heap.size) (x := .int .i64 0) (y := .slice none 0 0) (by simpa using (kS2.set_ 0 (.int .i64 0)).set_ 1 (.slice none 0 0)) rfl ?_
    rw [HF.out]
    exact ⟨((hB1.trans (hB2.mono (by omega))).setCell (Nat.le_refl _) _).setCell (Nat.le_refl _) _, rfl⟩
end Go.Proofs.YtoccplfnjammjaaGreatDoor
