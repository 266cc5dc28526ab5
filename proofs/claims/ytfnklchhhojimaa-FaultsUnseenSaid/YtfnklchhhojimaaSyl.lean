/- strings.Builder: WriteByte; syllables are written. -/
import Derived.Test.YtfnklchhhojimaaBuilder
import Derived.Test.YtfnklchhhojimaaShelf
import Derived.Test.YtfnklchhhojimaaStitch1
set_option linter.unusedSimpArgs false
set_option linter.unusedVariables false
namespace Go.Proofs.Ytfnklchhhojimaa
open Go Go.RowKit Tor

/-- what is no block of bytes, and not block b, is as it was -/
def KeepB (b : Nat) (w w' : World) : Prop := ∀ g t cs, w.heap[g]? = some (.cells cs t (0, 0)) → t ≠ 5 → g ≠ b → w'.heap[g]? = some (.cells cs t (0, 0))
theorem KeepB.refl (b : Nat) (w : World) : KeepB b w w := fun _ _ _ h _ _ => h
theorem KeepB.trans {b : Nat} {w w' w'' : World} (h : KeepB b w w') (k : KeepB b w' w'') : KeepB b w w'' := fun g t cs hg ht hb => k g t cs (h g t cs hg ht hb) ht hb
theorem KeepB.below {b B : Nat} {w w' : World} (h : Below B w w') (hB : w.heap.size ≤ B) : KeepB b w w' := fun g t cs hg _ _ => by
  have gl : g < w.heap.size := by
    rcases Nat.lt_or_ge g w.heap.size with h' | h'
    · exact h'
    · simp [Array.getElem?_eq_none h'] at hg
  exact (h.block g (by omega)).trans hg


set_option maxRecDepth 100000 in
set_option maxHeartbeats 1000000 in
theorem writeByte_any (B b : Nat) (bs : List Value) (c : Int) (w : World) (h : IsB B b bs w) (hlen : bs.length + 1 ≤ 140737488355328) (hBw : B ≤ w.heap.size) :
    Calls Try.prog 84 #[.pointer (some ⟨b, 0, none⟩), .int .u8 c] w fun e w' => e = .returned .nilIface ∧ (IsB B b (bs ++ [.int .u8 c]) w' ∧ Below B w w' ∧ KeepB b w w') := by
  obtain ⟨i0, hi, hz0, hz1, hz2⟩ := info_parts infoByte
  go_enter Try.func84, Try.ntmps84
  go_wp2_with (go_at_call 89; refine (copyCheck_any B b bs _ h).mono ?_)
  rintro e w1 ⟨rfl, h1, hb1, hk1⟩
  obtain ⟨hB, v, hbk, hown, hne⟩ := h1
  have c0 : w1.cell? ⟨b, 0, none⟩ = some (.pointer (some ⟨b, 0, none⟩)) := by rw [Lib.cell_of_heap hbk]; rfl
  have c1 : w1.cell? ⟨b, 1, none⟩ = some v := by rw [Lib.cell_of_heap hbk]; rfl
  have bl := lt_of_cell c0
  go_wp2_with (at_builtin; refine wpList_append_own _ rfl _ _ _ rfl B _ i0 _ 1 1 Try.underlying104 hi hz0 hz1 hz2 rfl (by decide) v bs.length bs rfl (hown.alloc _) ⟨w1.heap.size, 0, none⟩ 1 1 [.int .u8 c] rfl rfl ?c1 ?c2 ?c3 ?c4 ?c5 ?_)
  case c1 =>
    intro j u hu
    match j, hu with
    | 0, hu => simp at hu; subst hu; exact World.cell?_alloc_new w1 #[.int .u8 c] 5 0
  case c2 => intro u hu; simp at hu; subst hu; rfl
  case c3 => unfold maxLen; omega
  case c4 => omega
  case c5 => have := hb1.size; simp; omega
  intro v' w2 hown' hgrow _
  have hlt : b < (w1.alloc (.cells #[.int .u8 c] 5)).heap.size := by simp; omega
  have hb2 : w2.heap[b]? = some (.cells #[.pointer (some ⟨b, 0, none⟩), v] 118 (0, 0)) := by
    rw [hgrow.block b hlt (fun e => hne e.symm), Below.heap_alloc _ _ _ bl]
    exact hbk
  have d0 : w2.cell? ⟨b, 0, none⟩ = some (.pointer (some ⟨b, 0, none⟩)) := by rw [Lib.cell_of_heap hb2]; rfl
  have d1 : w2.cell? ⟨b, 1, none⟩ = some v := by rw [Lib.cell_of_heap hb2]; rfl
  have f1 : w2.frozen? ⟨b, 1, none⟩ = false := Lib.frozen_of_heap hb2 1
  obtain ⟨ao, n', cap, rfl⟩ : ∃ ao n' cap, v' = .slice ao n' cap := by
    rcases hown'.2 with ⟨hv, _⟩ | ⟨g, cap, cur, hv, _⟩
    · exact ⟨_, _, _, hv⟩
    · exact ⟨_, _, _, hv⟩
  go_wp2_with fail
  go_ret
  refine ⟨rfl, ?_, ?_, ?_⟩
  · right
    exact Lib.BuilderAt.put (T := 118) (e := 5) hB hb2 (bs' := bs ++ [.int .u8 c]) (by simpa using hown') (by decide)
  · exact (((hb1.alloc (by have := hb1.size; omega) _)).grown hgrow (by have := hb1.size; simp; omega) (fun k hk => (hown.lt k hk).1)).setCell (p := ⟨b, 1, none⟩) hB _
  · intro g t cs hg ht hgb
    rw [Below.heap_setCell _ ⟨b, 1, none⟩ _ g hgb]
    have hg1 := (hk1 g hgb).trans hg
    have gl : g < w1.heap.size := by
      rcases Nat.lt_or_ge g w1.heap.size with h' | h'
      · exact h'
      · simp [Array.getElem?_eq_none h'] at hg1
    rw [hgrow.block g (by simp; omega) (fun e => Lib.ownBlock_ne hown hg1 ht e.symm), Below.heap_alloc _ _ _ gl]
    exact hg1

theorem repeatL_len (l : List UInt8) : ∀ c : Nat, (Lib.repeatL l c).length = l.length * c
  | 0 => by simp [Lib.repeatL]
  | c + 1 => by simp [Lib.repeatL, repeatL_len l c, Nat.mul_succ]; omega

/-- a string, so many times -/
def times_ (s : ByteArray) (n : Int) : List UInt8 := Lib.repeatL s.data.toList n.toNat

theorem repeat_any (s : ByteArray) (n : Int) (w : World) (h0 : 0 ≤ n) (h1 : n ≤ 1000) (hs : s.size ≤ 1000) :
    Calls Try.prog 87 #[.string s, .int .i64 n] w (Ret (.string ⟨(times_ s n).toArray⟩) w) := by
  have := Try.strings_Repeat s n.toNat w (by omega) (by have := Nat.mul_le_mul hs (show n.toNat ≤ 1000 by omega); omega)
  rw [Int.toNat_of_nonneg h0] at this
  exact this

theorem times_len (s : ByteArray) (n : Int) : (times_ s n).length = s.size * n.toNat := by unfold times_; rw [repeatL_len, bsize]
theorem times_max (s : ByteArray) (n : Int) : times_ s (max n 0) = times_ s n := by
  have : (max n 0).toNat = n.toNat := by omega
  unfold times_; rw [this]
theorem times_neg (s : ByteArray) {n : Int} (h : n ≤ 0) : times_ s n = [] := by
  have : n.toNat = 0 := by omega
  unfold times_; rw [this]; rfl
theorem strCells_times (l : List UInt8) : Lib.strCells ⟨l.toArray⟩ = Lib.byteCells l := by rw [Lib.strCells_eq]


/-- what the closure put has written -/
def PutPost (B b : Nat) (l : List UInt8) (up dn : ByteArray) (n : Int) (w : World) (e : Ending) (w' : World) : Prop :=
  e = .returned (.tuple #[]) ∧ ∃ l', Hid (l' = l ++ (times_ up (-n) ++ times_ dn n)) ∧ l'.length ≤ l.length + 2000 ∧ IsB B b (Lib.byteCells l') w' ∧ Below B w w' ∧ KeepB b w w'


set_option maxRecDepth 100000 in
set_option maxHeartbeats 1000000 in
theorem put_any (B b pb : Nat) (l : List UInt8) (up dn : ByteArray) (n : Int) (w : World) (hI : IsB B b (Lib.byteCells l) w) (kp : Blk w pb 116 #[.pointer (some ⟨b, 0, none⟩)]) (hne : pb ≠ b)
    (hBw : B ≤ w.heap.size) (hl : l.length ≤ 1000000) (h1 : -1000 ≤ n) (h2 : n ≤ 1000) (hu : up.size ≤ 1) (hd : dn.size ≤ 1) :
    Calls Try.prog 85 #[.string up, .string dn, .int .i64 n, .pointer (some ⟨pb, 0, none⟩)] w (PutPost B b l up dn n w) := by
  have p0 := kp.cell 0 (.pointer (some ⟨b, 0, none⟩)) rfl
  have pl := kp.lt
  have hw : IntKind.i64.wrap (-n) = -n := IntWalk.i64_in _ (by omega)
  have L1 := Lib.hid (times_len up (max (-n) 0))
  have L2 := Lib.hid (times_len dn (max n 0))
  have M1 : up.size * (max (-n) 0).toNat ≤ 1000 := by have := Nat.mul_le_mul hu (show (max (-n) 0).toNat ≤ 1000 by omega); omega
  have M2 : dn.size * (max n 0).toNat ≤ 1000 := by have := Nat.mul_le_mul hd (show (max n 0).toNat ≤ 1000 by omega); omega
  have N1 : Hid ((Lib.byteCells l).length + (⟨(times_ up (max (-n) 0)).toArray⟩ : ByteArray).size ≤ 140737488355328) := by
    show _ + (times_ up (max (-n) 0)).length ≤ _
    rw [L1.out, Lib.byteCells_length]; omega
  have N2 : Hid ((Lib.byteCells l ++ Lib.strCells ⟨(times_ up (max (-n) 0)).toArray⟩).length + (⟨(times_ dn (max n 0)).toArray⟩ : ByteArray).size ≤ 140737488355328) := by
    show _ + (times_ dn (max n 0)).length ≤ _
    rw [L2.out, List.length_append, strCells_times, Lib.byteCells_length, Lib.byteCells_length, L1.out]; omega
  have HL := Lib.hid hl
  have HM1 := Lib.hid M1
  have HM2 := Lib.hid M2
  clear M1 M2 hl
  go_enter Try.func85, Try.ntmps85
  go_wp2_with fail
  go_region_held3 (fun w' => w'.cell? ⟨pb, 0, none⟩ = some (.pointer (some ⟨b, 0, none⟩))) (go_keep) (first
      | (go_at_call 87; refine (repeat_any up (max (-n) 0) _ (by omega) (by omega) (by omega)).mono ?_; rintro e w1 ⟨rfl, hBw1⟩
         have hBw1' : Below w.heap.size w w1 := (Below.refl _ _).drew.trans hBw1
         have hzw1 := hBw1'.size
         have hIw1 := hI.below hBw1'
         have kpw1 := kp.below' hBw1'
         have pw1 := kpw1.cell 0 (.pointer (some ⟨b, 0, none⟩)) rfl)
      | (go_at_call 86; refine (writeString_any B b _ _ _ hIw1 N1.out (by omega)).mono ?_; rintro e w2 ⟨rfl, hIw2, hBw2, hkw2⟩
         have kpw2 : Blk w2 pb _ _ := hkw2 _ _ _ kpw1 (by decide) hne
         have hzw2 := hBw2.size
         have pw2 : w2.cell? ⟨pb, 0, none⟩ = some (.pointer (some ⟨b, 0, none⟩)) := Blk.cell kpw2 0 _ rfl)
      | fail)
  go_wp2_with fail
  go_region_held3 (fun w' => w'.cell? ⟨pb, 0, none⟩ = some (.pointer (some ⟨b, 0, none⟩))) (go_keep) (first
      | (go_at_call 87; refine (repeat_any dn (max n 0) _ (by omega) (by omega) (by omega)).mono ?_; rintro e w3 ⟨rfl, hBw3⟩
         have hBw3' : Below w2.heap.size w2 w3 := (Below.refl _ _).drew.trans hBw3
         have hzw3 := hBw3'.size
         have hIw3 := hIw2.below hBw3'
         have kpw3 := kpw2.below' hBw3'
         have pw3 := kpw3.cell 0 (.pointer (some ⟨b, 0, none⟩)) rfl)
      | (go_at_call 86; refine (writeString_any B b _ _ _ hIw3 N2.out (by omega)).mono ?_; rintro e w4 ⟨rfl, hIw4, hBw4, hkw4⟩
         have kpw4 : Blk w4 pb _ _ := hkw4 _ _ _ kpw3 (by decide) hne
         have hzw4 := hBw4.size
         have pw4 : w4.cell? ⟨pb, 0, none⟩ = some (.pointer (some ⟨b, 0, none⟩)) := Blk.cell kpw4 0 _ rfl)
      | fail)
  go_wp2_with fail
  go_end0
  rw [times_max] at L1 L2
  refine ⟨rfl, l ++ (times_ up (-n) ++ times_ dn n), Lib.hid rfl, ?_, ?_, ?_, ?_⟩
  · have := L1.out
    have := L2.out
    have := HM1.out
    have := HM2.out
    simp only [List.length_append]; omega
  · rw [Lib.byteCells_append, Lib.byteCells_append, ← List.append_assoc, ← strCells_times (times_ up (-n)), ← strCells_times (times_ dn n)]
    rw [times_max, times_max] at hIw4
    exact hIw4
  · exact (((hBw1'.mono hBw).trans hBw2).trans (hBw3'.mono (by omega))).trans hBw4
  · exact (((KeepB.below hBw1' (Nat.le_refl _)).trans hkw2).trans (KeepB.below hBw3' (Nat.le_refl _))).trans hkw4

theorem append_step {l0 l1 l2 acc x : List UInt8} (h1 : Hid (l1 = l0 ++ acc)) (h2 : Hid (l2 = l1 ++ x)) : Hid (l2 = l0 ++ (acc ++ x)) := by
  rw [Hid, h2.out, h1.out, List.append_assoc]
theorem times_one (c : UInt8) (n : Int) : times_ ⟨#[c]⟩ n = repZ c n := by
  unfold times_ repZ
  induction n.toNat with
  | zero => rfl
  | succ k ih => rw [List.replicate_succ]; simp [Lib.repeatL, ih]
theorem times_nil (n : Int) : times_ ⟨#[]⟩ n = [] := by
  have := times_len ⟨#[]⟩ n
  exact List.eq_nil_of_length_eq_zero (by rw [this]; simp [ByteArray.size])
theorem writeNil_eq (x : Syl) (l l' : List UInt8) (hp : x.pin = false) (L R T : Int) (hT : T = signT x.l * bothT x.l x.r) (hL : L = x.l - signT x.l * bothT x.l x.r) (hR : R = x.r - signT x.l * bothT x.l x.r)
    (h : Hid (l' = l ++ (((((((([] ++ (times_ ⟨#[99]⟩ (-x.m) ++ times_ ⟨#[67]⟩ x.m)) ++ (times_ ⟨#[76]⟩ (-L) ++ times_ ⟨#[]⟩ L)) ++ (times_ ⟨#[82]⟩ (-R) ++ times_ ⟨#[]⟩ R)) ++ (times_ ⟨#[84]⟩ (-T) ++ times_ ⟨#[]⟩ T)) ++
      (times_ ⟨#[]⟩ (-L) ++ times_ ⟨#[108]⟩ L)) ++ (times_ ⟨#[]⟩ (-R) ++ times_ ⟨#[114]⟩ R)) ++ (times_ ⟨#[]⟩ (-T) ++ times_ ⟨#[116]⟩ T))))) : l' = l ++ x.write := by
  subst hT hL hR
  rw [h.out]
  simp only [times_nil, times_one, Syl.write, hp, Syl.mid, twistW, List.nil_append, List.append_nil, List.append_assoc, Bool.false_eq_true, if_false]

def _root_.Tor.Syl.enc (x : Syl) : List Value := [.int .i64 x.m, .int .i64 x.l, .int .i64 x.r, .bool x.pin]
def _root_.Tor.Syl.small (x : Syl) : Prop := (-16 ≤ x.m ∧ x.m ≤ 16) ∧ (-16 ≤ x.l ∧ x.l ≤ 16) ∧ (-16 ≤ x.r ∧ x.r ≤ 16)
theorem write_len {x : Syl} (h : x.small) : x.write.length ≤ 200 := by
  obtain ⟨⟨m1, m2⟩, ⟨l1, l2⟩, ⟨r1, r2⟩⟩ := h
  unfold Syl.write
  split
  · simp
  · unfold Syl.mid twistW repZ signT
    rw [bothT_spec]
    simp only [List.length_append, List.length_replicate]
    (repeat' split) <;> omega

/-- what a syllable's writing has written -/
def WritePost (B b : Nat) (l : List UInt8) (x : Syl) (w : World) (e : Ending) (w' : World) : Prop :=
  e = .returned (.tuple #[]) ∧ ∃ l', Hid (l' = l ++ x.write) ∧ l'.length ≤ l.length + 14000 ∧ IsB B b (Lib.byteCells l') w' ∧ Below B w w' ∧ KeepB b w w'


set_option maxRecDepth 100000 in
set_option maxHeartbeats 16000000 in
theorem write_any (B b : Nat) (l : List UInt8) (x : Syl) (w : World) (hI : IsB B b (Lib.byteCells l) w) (hBz : B ≤ w.heap.size) (hL : l.length ≤ 900000) (hx : x.small) :
    Calls Try.prog 75 #[.agg #[.int .i64 x.m, .int .i64 x.l, .int .i64 x.r, .bool x.pin], .pointer (some ⟨b, 0, none⟩)] w (WritePost B b l x w) := by
  have HWL := Lib.hid (write_len hx)
  obtain ⟨⟨m1, m2⟩, ⟨l1, l2⟩, ⟨r1, r2⟩⟩ := hx
  have bl := hI.lt
  have hB0 : Below w.heap.size w ((w.alloc (.cells #[.int .i64 x.m, .int .i64 x.l, .int .i64 x.r, .bool x.pin] 111)).alloc (.cells #[.pointer (some ⟨b, 0, none⟩)] 116)) := by (repeat' first | exact Below.refl _ _ | apply Below.drew | (refine Below.setCells ?_ _ _ ?_) | (refine Below.setCell ?_ ?_ _) | (refine Below.alloc ?_ ?_ _) | (simp; done) | (simp; omega))
  have hI0 := hI.below hB0
  have hB := hB0.mono hBz
  have hK := KeepB.below (b := b) hB0 (Nat.le_refl _)
  replace hBz := Nat.le_trans hBz hB0.size
  cases hp : x.pin
  · rw [hp] at hB0 hI0 hB hK hBz
    have kS := (Blk.new w 111 #[.int .i64 x.m, .int .i64 x.l, .int .i64 x.r, .bool false]).alloc (.cells #[.pointer (some ⟨b, 0, none⟩)] 116)
    have kP : Blk ((w.alloc (.cells #[.int .i64 x.m, .int .i64 x.l, .int .i64 x.r, .bool false] 111)).alloc (.cells #[.pointer (some ⟨b, 0, none⟩)] 116)) (w.heap.size + 1) 116 #[.pointer (some ⟨b, 0, none⟩)] := by
      have := Blk.new (w.alloc (.cells #[.int .i64 x.m, .int .i64 x.l, .int .i64 x.r, .bool false] 111)) 116 #[.pointer (some ⟨b, 0, none⟩)]
      simpa using this
    have hE : Hid (l = l ++ []) := Lib.hid (by simp)
    clear hI
    have hI := hI0
    have P1 : (x.l * x.r).natAbs ≤ 256 := by
      rw [Int.natAbs_mul]; exact Nat.mul_le_mul (show x.l.natAbs ≤ 16 by omega) (show x.r.natAbs ≤ 16 by omega)
    have hw1 : IntKind.i64.wrap (x.l * x.r) = x.l * x.r := IntWalk.i64_in _ (by omega)
    have hw2 : IntKind.i64.wrap (-x.l) = -x.l := IntWalk.i64_in _ (by omega)
    have hw3 : IntKind.i64.wrap (-x.r) = -x.r := IntWalk.i64_in _ (by omega)
    clear hI0 hB0
    by_cases c1 : 0 < x.l * x.r <;> by_cases c2 : x.l < 0
    all_goals
      go_enter Try.func75, Try.ntmps75
      go_wp2_with (first
        | (go_at_call 85; refine (put_any B b (w.heap.size + 1) _ _ _ _ _ hI kP (by omega) hBz (by omega) (by omega) (by omega) (by decide) (by decide)).mono ?_; rintro e wn ⟨rfl, ln, hE', hL', hI', hB', hK'⟩
           replace kS : Blk wn _ _ _ := hK' _ _ _ kS (by decide) (by omega)
           replace kP : Blk wn _ _ _ := hK' _ _ _ kP (by decide) (by omega)
           replace hE := append_step hE hE'
           replace hL := Nat.le_trans hL' (Nat.add_le_add_right hL 2000)
           replace hI := hI'
           replace hBz := Nat.le_trans hBz hB'.size
           replace hB := hB.trans hB'
           replace hK := hK.trans hK'
           have s0 := kS.cell 0 _ rfl
           have s1 := kS.cell 1 _ rfl
           have s2 := kS.cell 2 _ rfl
           have s3 := kP.cell 0 _ rfl
           have sn := kS.lt
           have pn := kP.lt
           clear hE' hL' hI' hB' hK')
        | fail)
      go_quiet (fail)
      replace hI : IsB B b _ (wn.drewN nq) := hI
      replace kS : Blk (wn.drewN nq) _ _ _ := kS
      replace kP : Blk (wn.drewN nq) _ _ _ := kP
      replace hBz : B ≤ (wn.drewN nq).heap.size := hBz
      replace hB := hB.drewN nq
      replace hK : KeepB b w (wn.drewN nq) := hK
      go_wp2_with (first
        | (go_at_call 85; refine (put_any B b (w.heap.size + 1) _ _ _ _ _ hI kP (by omega) hBz (by omega) (by omega) (by omega) (by decide) (by decide)).mono ?_; rintro e wn ⟨rfl, ln, hE', hL', hI', hB', hK'⟩
           replace kS : Blk wn _ _ _ := hK' _ _ _ kS (by decide) (by omega)
           replace kP : Blk wn _ _ _ := hK' _ _ _ kP (by decide) (by omega)
           replace hE := append_step hE hE'
           replace hL := Nat.le_trans hL' (Nat.add_le_add_right hL 2000)
           replace hI := hI'
           replace hBz := Nat.le_trans hBz hB'.size
           replace hB := hB.trans hB'
           replace hK := hK.trans hK'
           have s0 := kS.cell 0 _ rfl
           have s1 := kS.cell 1 _ rfl
           have s2 := kS.cell 2 _ rfl
           have s3 := kP.cell 0 _ rfl
           have sn := kS.lt
           have pn := kP.lt
           clear hE' hL' hI' hB' hK')
        | fail)
      go_end0
      have hfin := writeNil_eq x l _ hp _ _ _ (by unfold signT bothT; (repeat' split) <;> omega) (by unfold signT bothT; (repeat' split) <;> omega) (by unfold signT bothT; (repeat' split) <;> omega) hE
      exact ⟨rfl, _, Lib.hid hfin, by rw [hfin, List.length_append]; have := HWL.out; omega, hI, hB, hK⟩
  · rw [hp] at hB0 hI0 hB hK hBz
    have kP : Blk ((w.alloc (.cells #[.int .i64 x.m, .int .i64 x.l, .int .i64 x.r, .bool true] 111)).alloc (.cells #[.pointer (some ⟨b, 0, none⟩)] 116)) (w.heap.size + 1) 116 #[.pointer (some ⟨b, 0, none⟩)] := by
      have := Blk.new (w.alloc (.cells #[.int .i64 x.m, .int .i64 x.l, .int .i64 x.r, .bool true] 111)) 116 #[.pointer (some ⟨b, 0, none⟩)]
      simpa using this
    go_enter Try.func75, Try.ntmps75
    go_wp2_with (first
      | (go_at_call 84; refine (writeByte_any B b _ _ _ hI0 (by rw [Lib.byteCells_length]; omega) hBz).mono ?_; rintro e wn ⟨rfl, hIn, hBn, hKn⟩)
      | fail)
    go_end0
    have hw : x.write = [80] := by unfold Syl.write; rw [hp]; rfl
    refine ⟨rfl, l ++ [80], Lib.hid (by rw [hw]), by simp, ?_, hB.trans hBn, hK.trans hKn⟩
    rw [Lib.byteCells_append]
    exact hIn
end Go.Proofs.Ytfnklchhhojimaa
