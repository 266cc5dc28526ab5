/- faults: put, check, Put. -/
import Derived.Test.YtfnklchhhojimaaPutP
import Derived.Test.YtfnklchhhojimaaKinds
set_option linter.unusedSimpArgs false
set_option linter.unusedVariables false
namespace Go.Proofs.Ytfnklchhhojimaa
open Go Go.RowKit Tor

theorem okS_fine {p s : Int} : ∀ (g : List Tri) (h n : Int), okS p s h n g → ∀ x ∈ g, wordE x.s = 0 ∧ 0 ≤ x.b ∧ x.b ≤ p - 2
  | [], _, _, _, x, hx => by simp at hx
  | y :: r, h, n, hok, x, hx => by
    unfold okS at hok
    rcases List.mem_cons.1 hx with rfl | hx
    · exact ⟨hok.1.w, hok.1.b0, hok.1.b1⟩
    · by_cases ha : y.a = 1
      · rw [if_pos ha] at hok; exact okS_fine r _ _ hok.2 x hx
      · rw [if_neg ha] at hok; exact okS_fine r _ _ hok.2 x hx

/-- instructions that are valid -/
structure InsOk (p s : Int) (l : List Tri) : Prop where
  p2 : 2 ≤ p
  p24 : p ≤ 24
  len : l.length ≤ 1000
  w : ∀ (k : Nat) (hk : k < l.length), wordE l[k].s = 0
  b : ∀ (k : Nat) (hk : k < l.length), 0 ≤ l[k].b ∧ l[k].b ≤ p - 2
theorem ins_ok {p s : Int} {l : List Tri} (h : (sheetR p s l).2.2.2 = 0) : InsOk p s l := by
  obtain ⟨h1, h2, h3, _⟩ := sheetR_inv h
  unfold handsE at h1
  split at h1
  · rename_i hh
    have hf := okS_fine l _ _ h3
    exact ⟨hh.1, hh.2.1, h2, fun k hk => (hf _ (List.getElem_mem hk)).1, fun k hk => (hf _ (List.getElem_mem hk)).2⟩
  · cases h1
theorem cutW_size (s x : ByteArray) (k g : Nat) : (cutW s k g x).size ≤ 2 * s.size + x.size := by
  unfold cutW
  rw [ByteArray.size_append, ByteArray.size_append, ByteArray.size_extract, ByteArray.size_extract]
  omega
theorem mem_set {l : List Tri} {i : Nat} {x y : Tri} (h : y ∈ l.set i x) : y ∈ l ∨ y = x := List.mem_or_eq_of_mem_set h
theorem xAt_size {l : List Tri} (h : ∀ x ∈ l, x.s.size ≤ 16) (i : Nat) : (xAt l i).s.size ≤ 16 := by
  by_cases hi : i < l.length
  · rw [xAt_of hi]; exact h _ (List.getElem_mem hi)
  · unfold xAt; rw [List.getD_eq_getElem?_getD, List.getElem?_eq_none (by omega)]; decide
theorem putF_words {l : List Tri} {f : Flt} (h : ∀ x ∈ l, x.s.size ≤ 16) : ∀ y ∈ putF l f, y.s.size ≤ 40 := by
  have hx := xAt_size h f.st.toNat
  have hx2 := xAt_size h (f.st.toNat + 1)
  intro y hy
  have hset : ∀ (k g : Nat) (x : ByteArray), x.size ≤ 1 → y ∈ setW l f.st.toNat (cutW (xAt l f.st.toNat).s k g x) → y.s.size ≤ 40 := fun k g x hxs hy => by
    unfold setW at hy
    rcases mem_set hy with hy | rfl
    · have := h y hy; omega
    · have := cutW_size (xAt l f.st.toNat).s x k g
      simp only; omega
  unfold putF at hy
  simp only at hy
  split at hy
  · exact hset _ _ _ (by decide) hy
  · split at hy
    · exact hset _ _ _ (by show 1 ≤ 1; omega) hy
    · split at hy
      · exact hset _ _ _ (by show 1 ≤ 1; omega) hy
      · split at hy
        · rcases mem_set hy with hy | rfl
          · have := h y hy; omega
          · simp only; omega
        · split at hy
          · rcases mem_set hy with hy | rfl
            · rcases mem_set hy with hy | rfl
              · have := h y hy; omega
              · omega
            · omega
          · have := h y (List.mem_of_mem_eraseIdx hy); omega
theorem putF_len (l : List Tri) (f : Flt) : (putF l f).length ≤ l.length := by
  unfold putF setW
  simp only
  (repeat' split) <;> simp [List.length_eraseIdx]
  split <;> omega


/-- what a put of instructions returns -/
def PutRet (w : World) (l' : List Tri) (n : Int) (e : Ending) (w' : World) : Prop := ∃ A c, e = .returned (.tuple #[.slice A l'.length c, .int .i64 n]) ∧ RdT w' w'.heap.size A l' ∧ Below w.heap.size w w'
theorem PutRet.nil {w w' : World} {n : Int} (hB : Below w.heap.size w w') : PutRet w [] n (.returned (.tuple #[.slice none 0 0, .int .i64 n])) w' := ⟨none, 0, rfl, Rd.nil, hB⟩

theorem callFunc_enter {P : Program} {f : FuncId} {fn : Func} {c : Code} (hf : P.funcs[f]? = some fn) (hname : (fn.name == "runtime.NumGoroutine") = false) (hb : fn.body = some c) (args : Array Value) (w : World) :
    (callFunc f args).run P w = .ok (.enter f args) w := by
  have h1 : fn.name ≠ "runtime.NumGoroutine" := by simpa using hname
  simp [callFunc, hf, h1, hb]
theorem kpf_enter (k : Int) (args : Array Value) (w : World) : (callFunc (kpf k) args).run Try.prog w = .ok (.enter (kpf k) args) w := by
  unfold kpf
  (repeat' split)
  · exact callFunc_enter Try.func32 (by kernel_rfl) rfl args w
  · exact callFunc_enter Try.func35 (by kernel_rfl) rfl args w
  · exact callFunc_enter Try.func36 (by kernel_rfl) rfl args w
  · exact callFunc_enter Try.func38 (by kernel_rfl) rfl args w
  · exact callFunc_enter Try.func40 (by kernel_rfl) rfl args w
  · exact callFunc_enter Try.func41 (by kernel_rfl) rfl args w
theorem kcell_in (K : KAt) {k : Int} (h : 1 ≤ k ∧ k ≤ 6) : kcell K k = kcells K k := by unfold kcell; rw [if_pos h]


set_option maxRecDepth 100000 in
set_option maxHeartbeats 2000000 in
theorem cput_any (g : Nat) (K : KAt) (p s : Int) (A : Option Addr) (l : List Tri) (c : Nat) (f : Flt) (w : World) (H : Nat) (hK : KindsAt w H g K) (hr : RdT w H A l) (hH : H ≤ w.heap.size) (hok : InsOk p s l) :
    Calls Try.prog 13 #[.slice (some ⟨g, 0, none⟩) 6 6, .int .i64 p, .int .i64 s, .slice A l.length c, .agg #[.int .i64 f.k, .int .i64 f.st, .int .i64 f.lt, .int .i64 f.wi]] w (PutRet w (accF p s l f).1 (accF p s l f).2) := by
  have HOK := Lib.hid hok
  have hl1 := hok.len
  have hBB : Below w.heap.size w (w.alloc (.cells #[.int .i64 f.k, .int .i64 f.st, .int .i64 f.lt, .int .i64 f.wi] 24)) := by (repeat' first | exact Below.refl _ _ | apply Below.drew | (refine Below.setCells ?_ _ _ ?_) | (refine Below.setCell ?_ ?_ _) | (refine Below.alloc ?_ ?_ _) | (simp; done) | (simp; omega))
  have kF := Blk.new w 24 #[.int .i64 f.k, .int .i64 f.st, .int .i64 f.lt, .int .i64 f.wi]
  have fl := kF.lt
  have HFD := Lib.hid (find_any g K f _ H (hK.below hBB hH) (Nat.le_trans hH hBB.size))
  clear hok
  obtain ⟨k, st, lt, wi⟩ := f
  simp only at HFD kF hBB fl ⊢
  by_cases hin : 1 ≤ k ∧ k ≤ 6
  rotate_left
  · have hsh : shapedF ⟨k, st, lt, wi⟩ = false := shapedF_out hin
    have hA : Hid (accF p s l ⟨k, st, lt, wi⟩ = ([], 2)) := by unfold accF; rw [if_pos hsh]; exact Lib.hid rfl
    rw [hA.out]
    have hkc : (kcell K k).toArray = #[.int .i64 0, .string ⟨#[]⟩, .bool false, .slice none 0 0, .nilFunc, .nilFunc] := by unfold kcell; rw [if_neg hin]
    rw [hsh, hkc] at HFD
    clear hsh hkc hin
    go_enter Try.func13, Try.ntmps13
    go_wp2_with (first | (go_at_call 27; refine HFD.out.mono ?_; rintro e w1 ⟨rfl, hB1⟩) | fail)
    go_ret2
    exact PutRet.nil ((hBB.trans (hB1.mono hBB.size)).alloc (hBB.trans (hB1.mono hBB.size)).size _)
  · obtain ⟨A', c', hv, _, _⟩ := hK.withs (k := k)
    obtain ⟨n', hn'⟩ : ∃ n, Hid ((withsL k).length = n) := ⟨_, Lib.hid rfl⟩
    rw [hn'.out] at hv
    obtain ⟨kn, hkn⟩ : ∃ x, Hid (kname k = x) := ⟨_, Lib.hid rfl⟩
    obtain ⟨kl, hkl⟩ : ∃ x, Hid (klet k = x) := ⟨_, Lib.hid rfl⟩
    obtain ⟨i1, hi1⟩ : ∃ x, Hid (klf k = x) := ⟨_, Lib.hid rfl⟩
    obtain ⟨i2, hi2⟩ : ∃ x, Hid (kpf k = x) := ⟨_, Lib.hid rfl⟩
    have hkc : (kcell K k).toArray = #[.int .i64 k, .string kn, .bool kl, .slice A' n' c', .func (.func i1) #[] #[], .func (.func i2) #[] #[]] := by rw [kcell_in K hin, kcells, hv, hkn.out, hkl.out, hi1.out, hi2.out]
    rw [hkc] at HFD
    clear hkc hv
    cases hsh : shapedF ⟨k, st, lt, wi⟩
    · have hA : Hid (accF p s l ⟨k, st, lt, wi⟩ = ([], 2)) := by unfold accF; rw [if_pos hsh]; exact Lib.hid rfl
      rw [hA.out]
      rw [hsh] at HFD
      clear hsh hin
      go_enter Try.func13, Try.ntmps13
      go_wp2_with (first | (go_at_call 27; refine HFD.out.mono ?_; rintro e w1 ⟨rfl, hB1⟩) | fail)
      go_ret2
      exact PutRet.nil ((hBB.trans (hB1.mono hBB.size)).alloc (hBB.trans (hB1.mono hBB.size)).size _)
    rw [hsh] at HFD
    have hsh' := hsh
    have HSH := Lib.hid hsh
    clear hsh
    have HS16 : Hid (∀ (k : Nat) (hk : k < l.length), l[k].s.size ≤ 1000) := Lib.hid (fun k hk => by have := (word_ok (HOK.out.w k hk)).1; omega)
    cases hfit : fitsF l ⟨k, st, lt, wi⟩
    · have hA : Hid (accF p s l ⟨k, st, lt, wi⟩ = ([], 4)) := by unfold accF; rw [if_neg (by rw [HSH.out]; decide), if_pos hfit]; exact Lib.hid rfl
      rw [hA.out]
      clear hA
      go_enter Try.func13, Try.ntmps13
      go_wp2_with (first
        | (go_at_call 27; refine HFD.out.mono ?_; rintro e w1 ⟨rfl, hB1⟩
           have hB2 : Below w.heap.size w (w1.alloc (.cells #[.int .i64 k, .string kn, .bool kl, .slice A' n' c', .func (.func i1) #[] #[], .func (.func i2) #[] #[]] 72)) := (hBB.trans (hB1.mono hBB.size)).alloc (hBB.trans (hB1.mono hBB.size)).size _
           have kK := Blk.new w1 72 #[.int .i64 k, .string kn, .bool kl, .slice A' n' c', .func (.func i1) #[] #[], .func (.func i2) #[] #[]]
           have kF2 := (kF.below' hB1).alloc (.cells #[.int .i64 k, .string kn, .bool kl, .slice A' n' c', .func (.func i1) #[] #[], .func (.func i2) #[] #[]] 72)
           have q0 := kK.cell 0 (.int .i64 k) rfl
           have q4 := kK.cell 4 (.func (.func i1) #[] #[]) rfl
           have q5 := kK.cell 5 (.func (.func i2) #[] #[]) rfl
           have q4' : (w1.alloc (.cells #[.int .i64 k, .string kn, .bool kl, .slice A' n' c', .func (.func i1) #[] #[], .func (.func i2) #[] #[]] 72)).cell? ⟨w1.heap.size, 4, none⟩ = some (.func (.func (klf k)) #[] #[]) := by rw [hi1.out]; exact q4
           have p0 := kF2.cell 0 (.int .i64 k) rfl
           have p1 := kF2.cell 1 (.int .i64 st) rfl
           have p2 := kF2.cell 2 (.int .i64 lt) rfl
           have p3 := kF2.cell 3 (.int .i64 wi) rfl
           have kl2 := kK.lt
           have fl2 := kF2.lt)
        | (go_at_call 28; refine (fits_any w1.heap.size A l c ⟨k, st, lt, wi⟩ _ H (hr.below' hB2 hH) (Nat.le_trans hH hB2.size) q0 q4' hsh' (by omega) HS16.out).mono ?_; rintro e w3 ⟨rfl, hB3⟩; rw [hfit]
           have kK3 := kK.below' hB3
           have kF3 := kF2.below' hB3
           have hB4 := hB2.trans (hB3.mono hB2.size)
           have q0' := kK3.cell 0 (.int .i64 k) rfl
           have q5' := kK3.cell 5 (.func (.func i2) #[] #[]) rfl
           have p0' := kF3.cell 0 (.int .i64 k) rfl
           have p1' := kF3.cell 1 (.int .i64 st) rfl
           have p2' := kF3.cell 2 (.int .i64 lt) rfl
           have p3' := kF3.cell 3 (.int .i64 wi) rfl
           have kl3 := kK3.lt
           have fl3 := kF3.lt)
        | fail)
      go_ret2
      exact PutRet.nil hB4
    obtain ⟨s1, s2, s3⟩ := fits_step hfit
    simp only at s1 s2 s3
    obtain ⟨n, rfl⟩ : ∃ n : Nat, st = n := ⟨st.toNat, by omega⟩
    have hnl : n < l.length := by omega
    have hln : l ≠ [] := fun e => by rw [e] at hnl; simp at hnl
    obtain ⟨b, o, rfl, hb0, g0, g1, g2⟩ := hr.tri hnl
    have hx : xAt l (n : Int).toNat = l[n] := by rw [Int.toNat_natCast]; exact xAt_of hnl
    have n1 : (n : Int) < (l.length : Int) := by omega
    have gb := lt_of_cell g2
    by_cases hful : k = 2 ∧ l[n].s.size = 16
    · have hA : Hid (accF p s l ⟨k, n, lt, wi⟩ = ([], 3)) := by unfold accF; rw [if_neg (by rw [HSH.out]; decide), if_neg (by rw [hfit]; decide), if_pos (by rw [hx]; exact hful)]; exact Lib.hid rfl
      rw [hA.out]
      obtain ⟨x1, x2⟩ := hful
      have x3 : (k == 2) = true := by rw [x1]; rfl
      have x4 : ((l[n].s.size : Int) == 16) = true := by rw [x2]; rfl
      clear x1 x2 hA s1 s2 s3 hx
      go_enter Try.func13, Try.ntmps13
      go_wp2_with (first
        | (go_at_call 27; refine HFD.out.mono ?_; rintro e w1 ⟨rfl, hB1⟩
           have hB2 : Below w.heap.size w (w1.alloc (.cells #[.int .i64 k, .string kn, .bool kl, .slice A' n' c', .func (.func i1) #[] #[], .func (.func i2) #[] #[]] 72)) := (hBB.trans (hB1.mono hBB.size)).alloc (hBB.trans (hB1.mono hBB.size)).size _
           have kK := Blk.new w1 72 #[.int .i64 k, .string kn, .bool kl, .slice A' n' c', .func (.func i1) #[] #[], .func (.func i2) #[] #[]]
           have kF2 := (kF.below' hB1).alloc (.cells #[.int .i64 k, .string kn, .bool kl, .slice A' n' c', .func (.func i1) #[] #[], .func (.func i2) #[] #[]] 72)
           have q0 := kK.cell 0 (.int .i64 k) rfl
           have q4 := kK.cell 4 (.func (.func i1) #[] #[]) rfl
           have q5 := kK.cell 5 (.func (.func i2) #[] #[]) rfl
           have q4' : (w1.alloc (.cells #[.int .i64 k, .string kn, .bool kl, .slice A' n' c', .func (.func i1) #[] #[], .func (.func i2) #[] #[]] 72)).cell? ⟨w1.heap.size, 4, none⟩ = some (.func (.func (klf k)) #[] #[]) := by rw [hi1.out]; exact q4
           have p0 := kF2.cell 0 (.int .i64 k) rfl
           have p1 := kF2.cell 1 (.int .i64 n) rfl
           have p2 := kF2.cell 2 (.int .i64 lt) rfl
           have p3 := kF2.cell 3 (.int .i64 wi) rfl
           have kl2 := kK.lt
           have fl2 := kF2.lt)
        | (go_at_call 28; refine (fits_any w1.heap.size _ l c ⟨k, n, lt, wi⟩ _ H (hr.below' hB2 hH) (Nat.le_trans hH hB2.size) q0 q4' hsh' (by omega) HS16.out).mono ?_; rintro e w3 ⟨rfl, hB3⟩; rw [hfit]
           have kK3 := kK.below' hB3
           have kF3 := kF2.below' hB3
           have hB4 := hB2.trans (hB3.mono hB2.size)
           have q0' := kK3.cell 0 (.int .i64 k) rfl
           have q5' := kK3.cell 5 (.func (.func i2) #[] #[]) rfl
           have p0' := kF3.cell 0 (.int .i64 k) rfl
           have p1' := kF3.cell 1 (.int .i64 n) rfl
           have p2' := kF3.cell 2 (.int .i64 lt) rfl
           have p3' := kF3.cell 3 (.int .i64 wi) rfl
           have kl3 := kK3.lt
           have fl3 := kF3.lt
           have g2' := (hB4.cell (p := ⟨b, _, none⟩) gb).trans g2)
        | fail)
      go_ret2
      exact PutRet.nil hB4
    have hbl : ∀ (k : Nat) (hk : k < l.length), 0 ≤ l[k].b ∧ l[k].b ≤ 100 := fun k hk => by have := HOK.out.b k hk; have := HOK.out.p24; omega
    have HKP := Lib.hid (fun (base g cap : Nat) (w : World) (hR : SRowT w base g cap l) (hbase : base ≤ w.heap.size) => kput_any base g cap l ⟨k, n, lt, wi⟩ w hR hbase (by omega) hsh' hfit HOK.out.w hbl)
    simp only [hi2.out] at HKP
    have hent := kpf_enter k
    rw [hi2.out] at hent
    have hpl := putF_len l ⟨k, n, lt, wi⟩
    have hpw : ∀ (j : Nat) (hj : j < (putF l ⟨k, n, lt, wi⟩).length), (putF l ⟨k, n, lt, wi⟩)[j].s.size ≤ 9223372036854775807 := fun j hj => by have := putF_words (f := ⟨k, n, lt, wi⟩) (fun x hx => by obtain ⟨q, hq, rfl⟩ := List.getElem_of_mem hx; exact (word_ok (HOK.out.w q hq)).1) _ (List.getElem_mem hj); omega
    have hacc : accF p s l ⟨k, n, lt, wi⟩ = if (sheetR p s (putF l ⟨k, n, lt, wi⟩)).2.2.2 ≠ 0 then ([], 9) else (putF l ⟨k, n, lt, wi⟩, 0) := by unfold accF; rw [if_neg (by rw [HSH.out]; decide), if_neg (by rw [hfit]; decide), if_neg (by rw [hx]; exact hful)]
    have hacc := Lib.hid hacc
    have hpw := Lib.hid hpw
    generalize putF l ⟨k, n, lt, wi⟩ = L at *
    skip
    have HCL := Lib.hid (fun (w' : World) (hr' : RdT w' H (some ⟨b, o, none⟩) l) => clone_any b o c l w' H hr' hln (by omega))
    obtain ⟨e9, he9⟩ : ∃ e, Hid ((sheetR p s L).2.2.2 = e) := ⟨_, Lib.hid rfl⟩
    clear s1 s2 s3 hx hbl hln
    rcases (show k ≠ 2 ∨ k = 2 ∧ l[n].s.size ≠ 16 by omega) with x1 | ⟨x1, x2⟩
    · by_cases hz : e9 = 0
      · skip
        have x3 : (k == 2) = false := by simpa using x1
        clear x1 hful
        have y1 : (e9 == 0) = true := by simpa using hz
        have y2 : (e9 != 0) = false := by simpa using hz
        have hA := hacc.out
        rw [he9.out, if_neg (by simpa using hz)] at hA
        have hA := Lib.hid hA
        rw [hA.out]
        clear hA hz
        go_enter Try.func13, Try.ntmps13
        go_wp2_with (first
          | (go_at_call 27; refine HFD.out.mono ?_; rintro e w1 ⟨rfl, hB1⟩
             have hB2 : Below w.heap.size w (w1.alloc (.cells #[.int .i64 k, .string kn, .bool kl, .slice A' n' c', .func (.func i1) #[] #[], .func (.func i2) #[] #[]] 72)) := (hBB.trans (hB1.mono hBB.size)).alloc (hBB.trans (hB1.mono hBB.size)).size _
             have kK := Blk.new w1 72 #[.int .i64 k, .string kn, .bool kl, .slice A' n' c', .func (.func i1) #[] #[], .func (.func i2) #[] #[]]
             have kF2 := (kF.below' hB1).alloc (.cells #[.int .i64 k, .string kn, .bool kl, .slice A' n' c', .func (.func i1) #[] #[], .func (.func i2) #[] #[]] 72)
             have q0 := kK.cell 0 (.int .i64 k) rfl
             have q4 := kK.cell 4 (.func (.func i1) #[] #[]) rfl
             have q5 := kK.cell 5 (.func (.func i2) #[] #[]) rfl
             have q4' : (w1.alloc (.cells #[.int .i64 k, .string kn, .bool kl, .slice A' n' c', .func (.func i1) #[] #[], .func (.func i2) #[] #[]] 72)).cell? ⟨w1.heap.size, 4, none⟩ = some (.func (.func (klf k)) #[] #[]) := by rw [hi1.out]; exact q4
             have p0 := kF2.cell 0 (.int .i64 k) rfl
             have p1 := kF2.cell 1 (.int .i64 n) rfl
             have p2 := kF2.cell 2 (.int .i64 lt) rfl
             have p3 := kF2.cell 3 (.int .i64 wi) rfl
             have kl2 := kK.lt
             have fl2 := kF2.lt)
          | (go_at_call 28; refine (fits_any w1.heap.size _ l c ⟨k, n, lt, wi⟩ _ H (hr.below' hB2 hH) (Nat.le_trans hH hB2.size) q0 q4' hsh' (by omega) HS16.out).mono ?_; rintro e w3 ⟨rfl, hB3⟩; rw [hfit]
             have kK3 := kK.below' hB3
             have kF3 := kF2.below' hB3
             have hB4 := hB2.trans (hB3.mono hB2.size)
             have q0' := kK3.cell 0 (.int .i64 k) rfl
             have q5' := kK3.cell 5 (.func (.func i2) #[] #[]) rfl
             have p0' := kF3.cell 0 (.int .i64 k) rfl
             have p1' := kF3.cell 1 (.int .i64 n) rfl
             have p2' := kF3.cell 2 (.int .i64 lt) rfl
             have p3' := kF3.cell 3 (.int .i64 wi) rfl
             have kl3 := kK3.lt
             have fl3 := kF3.lt
             have g2' := (hB4.cell (p := ⟨b, _, none⟩) gb).trans g2)
          | fail)
        refine wp_region_J (fun w' => w'.cell? ⟨w1.heap.size, 5, none⟩ = some (.func (.func i2) #[] #[]) ∧ w'.cell? ⟨w.heap.size, 0, none⟩ = some (.int .i64 k) ∧ w'.cell? ⟨w.heap.size, 1, none⟩ = some (.int .i64 n) ∧ w'.cell? ⟨w.heap.size, 2, none⟩ = some (.int .i64 lt) ∧ w'.cell? ⟨w.heap.size, 3, none⟩ = some (.int .i64 wi)) (fun _ => True) (fun _ => false) (by kernel_rfl) ?_
        have hS1 : w3.drew.cell? ⟨w1.heap.size, 5, none⟩ = some (.func (.func i2) #[] #[]) ∧ w3.drew.cell? ⟨w.heap.size, 0, none⟩ = some (.int .i64 k) ∧ w3.drew.cell? ⟨w.heap.size, 1, none⟩ = some (.int .i64 n) ∧ w3.drew.cell? ⟨w.heap.size, 2, none⟩ = some (.int .i64 lt) ∧ w3.drew.cell? ⟨w.heap.size, 3, none⟩ = some (.int .i64 wi) := ⟨q5', p0', p1', p2', p3'⟩
        refine wpAnyJ_take1 0 rfl (by kernel_rfl) (by kernel_rfl) rfl (by kernel_rfl) (fun _ _ _ h => h) (by rfl) hS1 (fun w' hSw => (by obtain ⟨z1, z2, z3, z4, z5⟩ := hSw; go_simp; try (with_reducible rfl))) ?_
        try simp only [Act.put, List.getElem_toArray, List.getElem_cons_succ, List.getElem_cons_zero, List.setIfInBounds_toArray, List.set_cons_zero, List.set_cons_succ]
        refine wpAnyJ_take1 1 rfl (by kernel_rfl) (by kernel_rfl) rfl (by kernel_rfl) (fun _ _ _ h => h) (by rfl) hS1 (fun w' hSw => (by obtain ⟨z1, z2, z3, z4, z5⟩ := hSw; go_simp; try (with_reducible rfl))) ?_
        try simp only [Act.put, List.getElem_toArray, List.getElem_cons_succ, List.getElem_cons_zero, List.setIfInBounds_toArray, List.set_cons_zero, List.set_cons_succ]
        refine wpAnyJ_take1 2 rfl (by kernel_rfl) (by kernel_rfl) rfl (by kernel_rfl) (fun _ _ _ h => h) (by rfl) hS1 (fun w' hSw => (by obtain ⟨z1, z2, z3, z4, z5⟩ := hSw; go_simp; try (with_reducible rfl))) ?_
        try simp only [Act.put, List.getElem_toArray, List.getElem_cons_succ, List.getElem_cons_zero, List.setIfInBounds_toArray, List.set_cons_zero, List.set_cons_succ]
        refine wpAnyJ_take1 4 rfl (by kernel_rfl) (by kernel_rfl) rfl (by kernel_rfl) (fun _ _ _ h => h) (by rfl) hS1 (fun w' hSw => (by obtain ⟨z1, z2, z3, z4, z5⟩ := hSw; go_simp; try (with_reducible rfl))) ?_
        try simp only [Act.put, List.getElem_toArray, List.getElem_cons_succ, List.getElem_cons_zero, List.setIfInBounds_toArray, List.set_cons_zero, List.set_cons_succ]
        refine wpAnyJ_ready [3] (by kernel_rfl) (by simp) (NextJ.cons rfl (fun K hK => ?_) NextJ.nil)
        go_simp
        refine (HCL.out w3.drew (hr.below' hB4.drew hH)).mono ?_
        rintro e w5 ⟨g2', cap2, rfl, hR5, hB5⟩
        have kK5 := kK3.drew.below' hB5
        have kF5 := kF3.drew.below' hB5
        have hB6 := hB4.drew.trans (hB5.mono hB4.size)
        have hS5 := And.intro (kK5.cell 5 (.func (.func i2) #[] #[]) rfl) (And.intro (kF5.cell 0 (.int .i64 k) rfl) (And.intro (kF5.cell 1 (.int .i64 n) rfl) (And.intro (kF5.cell 2 (.int .i64 lt) rfl) (kF5.cell 3 (.int .i64 wi) rfl))))
        go_simp
        refine hK.out _ _ hS5 (fun h => absurd h (by decide)) ?_
        clear hK K
        try simp only [Act.put, List.getElem_toArray, List.getElem_cons_succ, List.getElem_cons_zero, List.setIfInBounds_toArray, List.set_cons_zero, List.set_cons_succ]
        refine wpAnyJ_ready [5] (by kernel_rfl) (by simp) (NextJ.cons rfl (fun K hK => ?_) NextJ.nil)
        go_simp
        refine (HKP.out w3.heap.size g2' cap2 w5 hR5 hB5.size).mono ?_
        rintro e w7 ⟨cap3, rfl, hR7, hB7⟩
        have kK7 := kK5.below hB7 kl3
        have kF7 := kF5.below hB7 fl3
        have hB8 := hB6.trans (hB7.mono hB4.size)
        have hS7 := And.intro (kK7.cell 5 (.func (.func i2) #[] #[]) rfl) (And.intro (kF7.cell 0 (.int .i64 k) rfl) (And.intro (kF7.cell 1 (.int .i64 n) rfl) (And.intro (kF7.cell 2 (.int .i64 lt) rfl) (kF7.cell 3 (.int .i64 wi) rfl))))
        go_simp
        refine hK.out _ _ hS7 (fun h => absurd h (by decide)) ?_
        clear hK K
        try simp only [Act.put, List.getElem_toArray, List.getElem_cons_succ, List.getElem_cons_zero, List.setIfInBounds_toArray, List.set_cons_zero, List.set_cons_succ]
        refine wpAnyJ_take1 6 rfl (by kernel_rfl) (by kernel_rfl) rfl (by kernel_rfl) (fun _ _ _ h => h) (by rfl) hS7 (fun w' hSw => (by obtain ⟨z1, z2, z3, z4, z5⟩ := hSw; go_simp; try (with_reducible rfl))) ?_
        try simp only [Act.put, List.getElem_toArray, List.getElem_cons_succ, List.getElem_cons_zero, List.setIfInBounds_toArray, List.set_cons_zero, List.set_cons_succ]
        refine wpAnyJ_done (by kernel_rfl) ?_ _
        clear hS1 hS5 hS7
        go_wp2_with (first
          | (go_at_call 24; refine (csheet_any p s (some ⟨g2', 0, none⟩) L cap3 w7 w7.heap.size hR7.rd (Nat.le_refl _) hpw.out (by omega)).mono ?_; rintro e w8 ⟨v8, rfl, hown8, hB9⟩; rw [he9.out]
             obtain ⟨A9, c9, rfl, _, _⟩ := Own.rd tri_len hown8)
          | fail)
        go_ret2
        refine ⟨_, _, rfl, ?_, (hB8.trans (hB9.mono hB8.size)).alloc (Nat.le_trans hB8.size hB9.size) _⟩
        exact ((hR7.below hB9).alloc _).rd
      · skip
        have x3 : (k == 2) = false := by simpa using x1
        clear x1 hful
        have y1 : (e9 == 0) = false := by simpa using hz
        have y2 : (e9 != 0) = true := by simpa using hz
        have hA := hacc.out
        rw [he9.out, if_pos (by simpa using hz)] at hA
        have hA := Lib.hid hA
        rw [hA.out]
        clear hA hz
        go_enter Try.func13, Try.ntmps13
        go_wp2_with (first
          | (go_at_call 27; refine HFD.out.mono ?_; rintro e w1 ⟨rfl, hB1⟩
             have hB2 : Below w.heap.size w (w1.alloc (.cells #[.int .i64 k, .string kn, .bool kl, .slice A' n' c', .func (.func i1) #[] #[], .func (.func i2) #[] #[]] 72)) := (hBB.trans (hB1.mono hBB.size)).alloc (hBB.trans (hB1.mono hBB.size)).size _
             have kK := Blk.new w1 72 #[.int .i64 k, .string kn, .bool kl, .slice A' n' c', .func (.func i1) #[] #[], .func (.func i2) #[] #[]]
             have kF2 := (kF.below' hB1).alloc (.cells #[.int .i64 k, .string kn, .bool kl, .slice A' n' c', .func (.func i1) #[] #[], .func (.func i2) #[] #[]] 72)
             have q0 := kK.cell 0 (.int .i64 k) rfl
             have q4 := kK.cell 4 (.func (.func i1) #[] #[]) rfl
             have q5 := kK.cell 5 (.func (.func i2) #[] #[]) rfl
             have q4' : (w1.alloc (.cells #[.int .i64 k, .string kn, .bool kl, .slice A' n' c', .func (.func i1) #[] #[], .func (.func i2) #[] #[]] 72)).cell? ⟨w1.heap.size, 4, none⟩ = some (.func (.func (klf k)) #[] #[]) := by rw [hi1.out]; exact q4
             have p0 := kF2.cell 0 (.int .i64 k) rfl
             have p1 := kF2.cell 1 (.int .i64 n) rfl
             have p2 := kF2.cell 2 (.int .i64 lt) rfl
             have p3 := kF2.cell 3 (.int .i64 wi) rfl
             have kl2 := kK.lt
             have fl2 := kF2.lt)
          | (go_at_call 28; refine (fits_any w1.heap.size _ l c ⟨k, n, lt, wi⟩ _ H (hr.below' hB2 hH) (Nat.le_trans hH hB2.size) q0 q4' hsh' (by omega) HS16.out).mono ?_; rintro e w3 ⟨rfl, hB3⟩; rw [hfit]
             have kK3 := kK.below' hB3
             have kF3 := kF2.below' hB3
             have hB4 := hB2.trans (hB3.mono hB2.size)
             have q0' := kK3.cell 0 (.int .i64 k) rfl
             have q5' := kK3.cell 5 (.func (.func i2) #[] #[]) rfl
             have p0' := kF3.cell 0 (.int .i64 k) rfl
             have p1' := kF3.cell 1 (.int .i64 n) rfl
             have p2' := kF3.cell 2 (.int .i64 lt) rfl
             have p3' := kF3.cell 3 (.int .i64 wi) rfl
             have kl3 := kK3.lt
             have fl3 := kF3.lt
             have g2' := (hB4.cell (p := ⟨b, _, none⟩) gb).trans g2)
          | fail)
        refine wp_region_J (fun w' => w'.cell? ⟨w1.heap.size, 5, none⟩ = some (.func (.func i2) #[] #[]) ∧ w'.cell? ⟨w.heap.size, 0, none⟩ = some (.int .i64 k) ∧ w'.cell? ⟨w.heap.size, 1, none⟩ = some (.int .i64 n) ∧ w'.cell? ⟨w.heap.size, 2, none⟩ = some (.int .i64 lt) ∧ w'.cell? ⟨w.heap.size, 3, none⟩ = some (.int .i64 wi)) (fun _ => True) (fun _ => false) (by kernel_rfl) ?_
        have hS1 : w3.drew.cell? ⟨w1.heap.size, 5, none⟩ = some (.func (.func i2) #[] #[]) ∧ w3.drew.cell? ⟨w.heap.size, 0, none⟩ = some (.int .i64 k) ∧ w3.drew.cell? ⟨w.heap.size, 1, none⟩ = some (.int .i64 n) ∧ w3.drew.cell? ⟨w.heap.size, 2, none⟩ = some (.int .i64 lt) ∧ w3.drew.cell? ⟨w.heap.size, 3, none⟩ = some (.int .i64 wi) := ⟨q5', p0', p1', p2', p3'⟩
        refine wpAnyJ_take1 0 rfl (by kernel_rfl) (by kernel_rfl) rfl (by kernel_rfl) (fun _ _ _ h => h) (by rfl) hS1 (fun w' hSw => (by obtain ⟨z1, z2, z3, z4, z5⟩ := hSw; go_simp; try (with_reducible rfl))) ?_
        try simp only [Act.put, List.getElem_toArray, List.getElem_cons_succ, List.getElem_cons_zero, List.setIfInBounds_toArray, List.set_cons_zero, List.set_cons_succ]
        refine wpAnyJ_take1 1 rfl (by kernel_rfl) (by kernel_rfl) rfl (by kernel_rfl) (fun _ _ _ h => h) (by rfl) hS1 (fun w' hSw => (by obtain ⟨z1, z2, z3, z4, z5⟩ := hSw; go_simp; try (with_reducible rfl))) ?_
        try simp only [Act.put, List.getElem_toArray, List.getElem_cons_succ, List.getElem_cons_zero, List.setIfInBounds_toArray, List.set_cons_zero, List.set_cons_succ]
        refine wpAnyJ_take1 2 rfl (by kernel_rfl) (by kernel_rfl) rfl (by kernel_rfl) (fun _ _ _ h => h) (by rfl) hS1 (fun w' hSw => (by obtain ⟨z1, z2, z3, z4, z5⟩ := hSw; go_simp; try (with_reducible rfl))) ?_
        try simp only [Act.put, List.getElem_toArray, List.getElem_cons_succ, List.getElem_cons_zero, List.setIfInBounds_toArray, List.set_cons_zero, List.set_cons_succ]
        refine wpAnyJ_take1 4 rfl (by kernel_rfl) (by kernel_rfl) rfl (by kernel_rfl) (fun _ _ _ h => h) (by rfl) hS1 (fun w' hSw => (by obtain ⟨z1, z2, z3, z4, z5⟩ := hSw; go_simp; try (with_reducible rfl))) ?_
        try simp only [Act.put, List.getElem_toArray, List.getElem_cons_succ, List.getElem_cons_zero, List.setIfInBounds_toArray, List.set_cons_zero, List.set_cons_succ]
        refine wpAnyJ_ready [3] (by kernel_rfl) (by simp) (NextJ.cons rfl (fun K hK => ?_) NextJ.nil)
        go_simp
        refine (HCL.out w3.drew (hr.below' hB4.drew hH)).mono ?_
        rintro e w5 ⟨g2', cap2, rfl, hR5, hB5⟩
        have kK5 := kK3.drew.below' hB5
        have kF5 := kF3.drew.below' hB5
        have hB6 := hB4.drew.trans (hB5.mono hB4.size)
        have hS5 := And.intro (kK5.cell 5 (.func (.func i2) #[] #[]) rfl) (And.intro (kF5.cell 0 (.int .i64 k) rfl) (And.intro (kF5.cell 1 (.int .i64 n) rfl) (And.intro (kF5.cell 2 (.int .i64 lt) rfl) (kF5.cell 3 (.int .i64 wi) rfl))))
        go_simp
        refine hK.out _ _ hS5 (fun h => absurd h (by decide)) ?_
        clear hK K
        try simp only [Act.put, List.getElem_toArray, List.getElem_cons_succ, List.getElem_cons_zero, List.setIfInBounds_toArray, List.set_cons_zero, List.set_cons_succ]
        refine wpAnyJ_ready [5] (by kernel_rfl) (by simp) (NextJ.cons rfl (fun K hK => ?_) NextJ.nil)
        go_simp
        refine (HKP.out w3.heap.size g2' cap2 w5 hR5 hB5.size).mono ?_
        rintro e w7 ⟨cap3, rfl, hR7, hB7⟩
        have kK7 := kK5.below hB7 kl3
        have kF7 := kF5.below hB7 fl3
        have hB8 := hB6.trans (hB7.mono hB4.size)
        have hS7 := And.intro (kK7.cell 5 (.func (.func i2) #[] #[]) rfl) (And.intro (kF7.cell 0 (.int .i64 k) rfl) (And.intro (kF7.cell 1 (.int .i64 n) rfl) (And.intro (kF7.cell 2 (.int .i64 lt) rfl) (kF7.cell 3 (.int .i64 wi) rfl))))
        go_simp
        refine hK.out _ _ hS7 (fun h => absurd h (by decide)) ?_
        clear hK K
        try simp only [Act.put, List.getElem_toArray, List.getElem_cons_succ, List.getElem_cons_zero, List.setIfInBounds_toArray, List.set_cons_zero, List.set_cons_succ]
        refine wpAnyJ_take1 6 rfl (by kernel_rfl) (by kernel_rfl) rfl (by kernel_rfl) (fun _ _ _ h => h) (by rfl) hS7 (fun w' hSw => (by obtain ⟨z1, z2, z3, z4, z5⟩ := hSw; go_simp; try (with_reducible rfl))) ?_
        try simp only [Act.put, List.getElem_toArray, List.getElem_cons_succ, List.getElem_cons_zero, List.setIfInBounds_toArray, List.set_cons_zero, List.set_cons_succ]
        refine wpAnyJ_done (by kernel_rfl) ?_ _
        clear hS1 hS5 hS7
        go_wp2_with (first
          | (go_at_call 24; refine (csheet_any p s (some ⟨g2', 0, none⟩) L cap3 w7 w7.heap.size hR7.rd (Nat.le_refl _) hpw.out (by omega)).mono ?_; rintro e w8 ⟨v8, rfl, hown8, hB9⟩; rw [he9.out]
             obtain ⟨A9, c9, rfl, _, _⟩ := Own.rd tri_len hown8)
          | fail)
        go_ret2
        exact PutRet.nil ((hB8.trans (hB9.mono hB8.size)).alloc (Nat.le_trans hB8.size hB9.size) _)
    · by_cases hz : e9 = 0
      · skip
        have x3 : (k == 2) = true := by rw [x1]; rfl
        have x4 : ((l[n].s.size : Int) == 16) = false := by simp; omega
        clear x1 x2 hful
        have y1 : (e9 == 0) = true := by simpa using hz
        have y2 : (e9 != 0) = false := by simpa using hz
        have hA := hacc.out
        rw [he9.out, if_neg (by simpa using hz)] at hA
        have hA := Lib.hid hA
        rw [hA.out]
        clear hA hz
        go_enter Try.func13, Try.ntmps13
        go_wp2_with (first
          | (go_at_call 27; refine HFD.out.mono ?_; rintro e w1 ⟨rfl, hB1⟩
             have hB2 : Below w.heap.size w (w1.alloc (.cells #[.int .i64 k, .string kn, .bool kl, .slice A' n' c', .func (.func i1) #[] #[], .func (.func i2) #[] #[]] 72)) := (hBB.trans (hB1.mono hBB.size)).alloc (hBB.trans (hB1.mono hBB.size)).size _
             have kK := Blk.new w1 72 #[.int .i64 k, .string kn, .bool kl, .slice A' n' c', .func (.func i1) #[] #[], .func (.func i2) #[] #[]]
             have kF2 := (kF.below' hB1).alloc (.cells #[.int .i64 k, .string kn, .bool kl, .slice A' n' c', .func (.func i1) #[] #[], .func (.func i2) #[] #[]] 72)
             have q0 := kK.cell 0 (.int .i64 k) rfl
             have q4 := kK.cell 4 (.func (.func i1) #[] #[]) rfl
             have q5 := kK.cell 5 (.func (.func i2) #[] #[]) rfl
             have q4' : (w1.alloc (.cells #[.int .i64 k, .string kn, .bool kl, .slice A' n' c', .func (.func i1) #[] #[], .func (.func i2) #[] #[]] 72)).cell? ⟨w1.heap.size, 4, none⟩ = some (.func (.func (klf k)) #[] #[]) := by rw [hi1.out]; exact q4
             have p0 := kF2.cell 0 (.int .i64 k) rfl
             have p1 := kF2.cell 1 (.int .i64 n) rfl
             have p2 := kF2.cell 2 (.int .i64 lt) rfl
             have p3 := kF2.cell 3 (.int .i64 wi) rfl
             have kl2 := kK.lt
             have fl2 := kF2.lt)
          | (go_at_call 28; refine (fits_any w1.heap.size _ l c ⟨k, n, lt, wi⟩ _ H (hr.below' hB2 hH) (Nat.le_trans hH hB2.size) q0 q4' hsh' (by omega) HS16.out).mono ?_; rintro e w3 ⟨rfl, hB3⟩; rw [hfit]
             have kK3 := kK.below' hB3
             have kF3 := kF2.below' hB3
             have hB4 := hB2.trans (hB3.mono hB2.size)
             have q0' := kK3.cell 0 (.int .i64 k) rfl
             have q5' := kK3.cell 5 (.func (.func i2) #[] #[]) rfl
             have p0' := kF3.cell 0 (.int .i64 k) rfl
             have p1' := kF3.cell 1 (.int .i64 n) rfl
             have p2' := kF3.cell 2 (.int .i64 lt) rfl
             have p3' := kF3.cell 3 (.int .i64 wi) rfl
             have kl3 := kK3.lt
             have fl3 := kF3.lt
             have g2' := (hB4.cell (p := ⟨b, _, none⟩) gb).trans g2)
          | fail)
        refine wp_region_J (fun w' => w'.cell? ⟨w1.heap.size, 5, none⟩ = some (.func (.func i2) #[] #[]) ∧ w'.cell? ⟨w.heap.size, 0, none⟩ = some (.int .i64 k) ∧ w'.cell? ⟨w.heap.size, 1, none⟩ = some (.int .i64 n) ∧ w'.cell? ⟨w.heap.size, 2, none⟩ = some (.int .i64 lt) ∧ w'.cell? ⟨w.heap.size, 3, none⟩ = some (.int .i64 wi)) (fun _ => True) (fun _ => false) (by kernel_rfl) ?_
        have hS1 : w3.drew.cell? ⟨w1.heap.size, 5, none⟩ = some (.func (.func i2) #[] #[]) ∧ w3.drew.cell? ⟨w.heap.size, 0, none⟩ = some (.int .i64 k) ∧ w3.drew.cell? ⟨w.heap.size, 1, none⟩ = some (.int .i64 n) ∧ w3.drew.cell? ⟨w.heap.size, 2, none⟩ = some (.int .i64 lt) ∧ w3.drew.cell? ⟨w.heap.size, 3, none⟩ = some (.int .i64 wi) := ⟨q5', p0', p1', p2', p3'⟩
        refine wpAnyJ_take1 0 rfl (by kernel_rfl) (by kernel_rfl) rfl (by kernel_rfl) (fun _ _ _ h => h) (by rfl) hS1 (fun w' hSw => (by obtain ⟨z1, z2, z3, z4, z5⟩ := hSw; go_simp; try (with_reducible rfl))) ?_
        try simp only [Act.put, List.getElem_toArray, List.getElem_cons_succ, List.getElem_cons_zero, List.setIfInBounds_toArray, List.set_cons_zero, List.set_cons_succ]
        refine wpAnyJ_take1 1 rfl (by kernel_rfl) (by kernel_rfl) rfl (by kernel_rfl) (fun _ _ _ h => h) (by rfl) hS1 (fun w' hSw => (by obtain ⟨z1, z2, z3, z4, z5⟩ := hSw; go_simp; try (with_reducible rfl))) ?_
        try simp only [Act.put, List.getElem_toArray, List.getElem_cons_succ, List.getElem_cons_zero, List.setIfInBounds_toArray, List.set_cons_zero, List.set_cons_succ]
        refine wpAnyJ_take1 2 rfl (by kernel_rfl) (by kernel_rfl) rfl (by kernel_rfl) (fun _ _ _ h => h) (by rfl) hS1 (fun w' hSw => (by obtain ⟨z1, z2, z3, z4, z5⟩ := hSw; go_simp; try (with_reducible rfl))) ?_
        try simp only [Act.put, List.getElem_toArray, List.getElem_cons_succ, List.getElem_cons_zero, List.setIfInBounds_toArray, List.set_cons_zero, List.set_cons_succ]
        refine wpAnyJ_take1 4 rfl (by kernel_rfl) (by kernel_rfl) rfl (by kernel_rfl) (fun _ _ _ h => h) (by rfl) hS1 (fun w' hSw => (by obtain ⟨z1, z2, z3, z4, z5⟩ := hSw; go_simp; try (with_reducible rfl))) ?_
        try simp only [Act.put, List.getElem_toArray, List.getElem_cons_succ, List.getElem_cons_zero, List.setIfInBounds_toArray, List.set_cons_zero, List.set_cons_succ]
        refine wpAnyJ_ready [3] (by kernel_rfl) (by simp) (NextJ.cons rfl (fun K hK => ?_) NextJ.nil)
        go_simp
        refine (HCL.out w3.drew (hr.below' hB4.drew hH)).mono ?_
        rintro e w5 ⟨g2', cap2, rfl, hR5, hB5⟩
        have kK5 := kK3.drew.below' hB5
        have kF5 := kF3.drew.below' hB5
        have hB6 := hB4.drew.trans (hB5.mono hB4.size)
        have hS5 := And.intro (kK5.cell 5 (.func (.func i2) #[] #[]) rfl) (And.intro (kF5.cell 0 (.int .i64 k) rfl) (And.intro (kF5.cell 1 (.int .i64 n) rfl) (And.intro (kF5.cell 2 (.int .i64 lt) rfl) (kF5.cell 3 (.int .i64 wi) rfl))))
        go_simp
        refine hK.out _ _ hS5 (fun h => absurd h (by decide)) ?_
        clear hK K
        try simp only [Act.put, List.getElem_toArray, List.getElem_cons_succ, List.getElem_cons_zero, List.setIfInBounds_toArray, List.set_cons_zero, List.set_cons_succ]
        refine wpAnyJ_ready [5] (by kernel_rfl) (by simp) (NextJ.cons rfl (fun K hK => ?_) NextJ.nil)
        go_simp
        refine (HKP.out w3.heap.size g2' cap2 w5 hR5 hB5.size).mono ?_
        rintro e w7 ⟨cap3, rfl, hR7, hB7⟩
        have kK7 := kK5.below hB7 kl3
        have kF7 := kF5.below hB7 fl3
        have hB8 := hB6.trans (hB7.mono hB4.size)
        have hS7 := And.intro (kK7.cell 5 (.func (.func i2) #[] #[]) rfl) (And.intro (kF7.cell 0 (.int .i64 k) rfl) (And.intro (kF7.cell 1 (.int .i64 n) rfl) (And.intro (kF7.cell 2 (.int .i64 lt) rfl) (kF7.cell 3 (.int .i64 wi) rfl))))
        go_simp
        refine hK.out _ _ hS7 (fun h => absurd h (by decide)) ?_
        clear hK K
        try simp only [Act.put, List.getElem_toArray, List.getElem_cons_succ, List.getElem_cons_zero, List.setIfInBounds_toArray, List.set_cons_zero, List.set_cons_succ]
        refine wpAnyJ_take1 6 rfl (by kernel_rfl) (by kernel_rfl) rfl (by kernel_rfl) (fun _ _ _ h => h) (by rfl) hS7 (fun w' hSw => (by obtain ⟨z1, z2, z3, z4, z5⟩ := hSw; go_simp; try (with_reducible rfl))) ?_
        try simp only [Act.put, List.getElem_toArray, List.getElem_cons_succ, List.getElem_cons_zero, List.setIfInBounds_toArray, List.set_cons_zero, List.set_cons_succ]
        refine wpAnyJ_done (by kernel_rfl) ?_ _
        clear hS1 hS5 hS7
        go_wp2_with (first
          | (go_at_call 24; refine (csheet_any p s (some ⟨g2', 0, none⟩) L cap3 w7 w7.heap.size hR7.rd (Nat.le_refl _) hpw.out (by omega)).mono ?_; rintro e w8 ⟨v8, rfl, hown8, hB9⟩; rw [he9.out]
             obtain ⟨A9, c9, rfl, _, _⟩ := Own.rd tri_len hown8)
          | fail)
        go_ret2
        refine ⟨_, _, rfl, ?_, (hB8.trans (hB9.mono hB8.size)).alloc (Nat.le_trans hB8.size hB9.size) _⟩
        exact ((hR7.below hB9).alloc _).rd
      · skip
        have x3 : (k == 2) = true := by rw [x1]; rfl
        have x4 : ((l[n].s.size : Int) == 16) = false := by simp; omega
        clear x1 x2 hful
        have y1 : (e9 == 0) = false := by simpa using hz
        have y2 : (e9 != 0) = true := by simpa using hz
        have hA := hacc.out
        rw [he9.out, if_pos (by simpa using hz)] at hA
        have hA := Lib.hid hA
        rw [hA.out]
        clear hA hz
        go_enter Try.func13, Try.ntmps13
        go_wp2_with (first
          | (go_at_call 27; refine HFD.out.mono ?_; rintro e w1 ⟨rfl, hB1⟩
             have hB2 : Below w.heap.size w (w1.alloc (.cells #[.int .i64 k, .string kn, .bool kl, .slice A' n' c', .func (.func i1) #[] #[], .func (.func i2) #[] #[]] 72)) := (hBB.trans (hB1.mono hBB.size)).alloc (hBB.trans (hB1.mono hBB.size)).size _
             have kK := Blk.new w1 72 #[.int .i64 k, .string kn, .bool kl, .slice A' n' c', .func (.func i1) #[] #[], .func (.func i2) #[] #[]]
             have kF2 := (kF.below' hB1).alloc (.cells #[.int .i64 k, .string kn, .bool kl, .slice A' n' c', .func (.func i1) #[] #[], .func (.func i2) #[] #[]] 72)
             have q0 := kK.cell 0 (.int .i64 k) rfl
             have q4 := kK.cell 4 (.func (.func i1) #[] #[]) rfl
             have q5 := kK.cell 5 (.func (.func i2) #[] #[]) rfl
             have q4' : (w1.alloc (.cells #[.int .i64 k, .string kn, .bool kl, .slice A' n' c', .func (.func i1) #[] #[], .func (.func i2) #[] #[]] 72)).cell? ⟨w1.heap.size, 4, none⟩ = some (.func (.func (klf k)) #[] #[]) := by rw [hi1.out]; exact q4
             have p0 := kF2.cell 0 (.int .i64 k) rfl
             have p1 := kF2.cell 1 (.int .i64 n) rfl
             have p2 := kF2.cell 2 (.int .i64 lt) rfl
             have p3 := kF2.cell 3 (.int .i64 wi) rfl
             have kl2 := kK.lt
             have fl2 := kF2.lt)
          | (go_at_call 28; refine (fits_any w1.heap.size _ l c ⟨k, n, lt, wi⟩ _ H (hr.below' hB2 hH) (Nat.le_trans hH hB2.size) q0 q4' hsh' (by omega) HS16.out).mono ?_; rintro e w3 ⟨rfl, hB3⟩; rw [hfit]
             have kK3 := kK.below' hB3
             have kF3 := kF2.below' hB3
             have hB4 := hB2.trans (hB3.mono hB2.size)
             have q0' := kK3.cell 0 (.int .i64 k) rfl
             have q5' := kK3.cell 5 (.func (.func i2) #[] #[]) rfl
             have p0' := kF3.cell 0 (.int .i64 k) rfl
             have p1' := kF3.cell 1 (.int .i64 n) rfl
             have p2' := kF3.cell 2 (.int .i64 lt) rfl
             have p3' := kF3.cell 3 (.int .i64 wi) rfl
             have kl3 := kK3.lt
             have fl3 := kF3.lt
             have g2' := (hB4.cell (p := ⟨b, _, none⟩) gb).trans g2)
          | fail)
        refine wp_region_J (fun w' => w'.cell? ⟨w1.heap.size, 5, none⟩ = some (.func (.func i2) #[] #[]) ∧ w'.cell? ⟨w.heap.size, 0, none⟩ = some (.int .i64 k) ∧ w'.cell? ⟨w.heap.size, 1, none⟩ = some (.int .i64 n) ∧ w'.cell? ⟨w.heap.size, 2, none⟩ = some (.int .i64 lt) ∧ w'.cell? ⟨w.heap.size, 3, none⟩ = some (.int .i64 wi)) (fun _ => True) (fun _ => false) (by kernel_rfl) ?_
        have hS1 : w3.drew.cell? ⟨w1.heap.size, 5, none⟩ = some (.func (.func i2) #[] #[]) ∧ w3.drew.cell? ⟨w.heap.size, 0, none⟩ = some (.int .i64 k) ∧ w3.drew.cell? ⟨w.heap.size, 1, none⟩ = some (.int .i64 n) ∧ w3.drew.cell? ⟨w.heap.size, 2, none⟩ = some (.int .i64 lt) ∧ w3.drew.cell? ⟨w.heap.size, 3, none⟩ = some (.int .i64 wi) := ⟨q5', p0', p1', p2', p3'⟩
        refine wpAnyJ_take1 0 rfl (by kernel_rfl) (by kernel_rfl) rfl (by kernel_rfl) (fun _ _ _ h => h) (by rfl) hS1 (fun w' hSw => (by obtain ⟨z1, z2, z3, z4, z5⟩ := hSw; go_simp; try (with_reducible rfl))) ?_
        try simp only [Act.put, List.getElem_toArray, List.getElem_cons_succ, List.getElem_cons_zero, List.setIfInBounds_toArray, List.set_cons_zero, List.set_cons_succ]
        refine wpAnyJ_take1 1 rfl (by kernel_rfl) (by kernel_rfl) rfl (by kernel_rfl) (fun _ _ _ h => h) (by rfl) hS1 (fun w' hSw => (by obtain ⟨z1, z2, z3, z4, z5⟩ := hSw; go_simp; try (with_reducible rfl))) ?_
        try simp only [Act.put, List.getElem_toArray, List.getElem_cons_succ, List.getElem_cons_zero, List.setIfInBounds_toArray, List.set_cons_zero, List.set_cons_succ]
        refine wpAnyJ_take1 2 rfl (by kernel_rfl) (by kernel_rfl) rfl (by kernel_rfl) (fun _ _ _ h => h) (by rfl) hS1 (fun w' hSw => (by obtain ⟨z1, z2, z3, z4, z5⟩ := hSw; go_simp; try (with_reducible rfl))) ?_
        try simp only [Act.put, List.getElem_toArray, List.getElem_cons_succ, List.getElem_cons_zero, List.setIfInBounds_toArray, List.set_cons_zero, List.set_cons_succ]
        refine wpAnyJ_take1 4 rfl (by kernel_rfl) (by kernel_rfl) rfl (by kernel_rfl) (fun _ _ _ h => h) (by rfl) hS1 (fun w' hSw => (by obtain ⟨z1, z2, z3, z4, z5⟩ := hSw; go_simp; try (with_reducible rfl))) ?_
        try simp only [Act.put, List.getElem_toArray, List.getElem_cons_succ, List.getElem_cons_zero, List.setIfInBounds_toArray, List.set_cons_zero, List.set_cons_succ]
        refine wpAnyJ_ready [3] (by kernel_rfl) (by simp) (NextJ.cons rfl (fun K hK => ?_) NextJ.nil)
        go_simp
        refine (HCL.out w3.drew (hr.below' hB4.drew hH)).mono ?_
        rintro e w5 ⟨g2', cap2, rfl, hR5, hB5⟩
        have kK5 := kK3.drew.below' hB5
        have kF5 := kF3.drew.below' hB5
        have hB6 := hB4.drew.trans (hB5.mono hB4.size)
        have hS5 := And.intro (kK5.cell 5 (.func (.func i2) #[] #[]) rfl) (And.intro (kF5.cell 0 (.int .i64 k) rfl) (And.intro (kF5.cell 1 (.int .i64 n) rfl) (And.intro (kF5.cell 2 (.int .i64 lt) rfl) (kF5.cell 3 (.int .i64 wi) rfl))))
        go_simp
        refine hK.out _ _ hS5 (fun h => absurd h (by decide)) ?_
        clear hK K
        try simp only [Act.put, List.getElem_toArray, List.getElem_cons_succ, List.getElem_cons_zero, List.setIfInBounds_toArray, List.set_cons_zero, List.set_cons_succ]
        refine wpAnyJ_ready [5] (by kernel_rfl) (by simp) (NextJ.cons rfl (fun K hK => ?_) NextJ.nil)
        go_simp
        refine (HKP.out w3.heap.size g2' cap2 w5 hR5 hB5.size).mono ?_
        rintro e w7 ⟨cap3, rfl, hR7, hB7⟩
        have kK7 := kK5.below hB7 kl3
        have kF7 := kF5.below hB7 fl3
        have hB8 := hB6.trans (hB7.mono hB4.size)
        have hS7 := And.intro (kK7.cell 5 (.func (.func i2) #[] #[]) rfl) (And.intro (kF7.cell 0 (.int .i64 k) rfl) (And.intro (kF7.cell 1 (.int .i64 n) rfl) (And.intro (kF7.cell 2 (.int .i64 lt) rfl) (kF7.cell 3 (.int .i64 wi) rfl))))
        go_simp
        refine hK.out _ _ hS7 (fun h => absurd h (by decide)) ?_
        clear hK K
        try simp only [Act.put, List.getElem_toArray, List.getElem_cons_succ, List.getElem_cons_zero, List.setIfInBounds_toArray, List.set_cons_zero, List.set_cons_succ]
        refine wpAnyJ_take1 6 rfl (by kernel_rfl) (by kernel_rfl) rfl (by kernel_rfl) (fun _ _ _ h => h) (by rfl) hS7 (fun w' hSw => (by obtain ⟨z1, z2, z3, z4, z5⟩ := hSw; go_simp; try (with_reducible rfl))) ?_
        try simp only [Act.put, List.getElem_toArray, List.getElem_cons_succ, List.getElem_cons_zero, List.setIfInBounds_toArray, List.set_cons_zero, List.set_cons_succ]
        refine wpAnyJ_done (by kernel_rfl) ?_ _
        clear hS1 hS5 hS7
        go_wp2_with (first
          | (go_at_call 24; refine (csheet_any p s (some ⟨g2', 0, none⟩) L cap3 w7 w7.heap.size hR7.rd (Nat.le_refl _) hpw.out (by omega)).mono ?_; rintro e w8 ⟨v8, rfl, hown8, hB9⟩; rw [he9.out]
             obtain ⟨A9, c9, rfl, _, _⟩ := Own.rd tri_len hown8)
          | fail)
        go_ret2
        exact PutRet.nil ((hB8.trans (hB9.mono hB8.size)).alloc (Nat.le_trans hB8.size hB9.size) _)
end Go.Proofs.Ytfnklchhhojimaa
