/- torchonref15: line, Print. -/
import Derived.Test.YtmfklcnocekdlaaGreatDoorCpTxM
import Derived.Test.YtmfklcnocekdlaaGreatDoorRNum
import Derived.Test.YtmfklcnocekdlaaGreatDoorShelf
set_option linter.unusedSimpArgs false
set_option linter.unusedVariables false
namespace Go.Proofs.YtmfklcnocekdlaaGreatDoor
open Go Go.RowKit Tor

theorem bN_cat15 (a b : List UInt8) : bN a ++ bN b = bN (a ++ b) := ByteArray.ext (Array.ext' (by rw [ByteArray.data_append, Array.toList_append]; rfl))
theorem lineR_of {x : Tri} {n : List UInt8} (h : nameB x.a = n) : lineR x = n ++ 32 :: (Lib.decDigits x.b.toNat ++ sufB x) := by unfold lineR; rw [h]
theorem itoa_two {n : Int} (h0 : 0 ≤ n) (h1 : n ≤ 22) : (Lib.itoa n).length ≤ 2 := by
  rw [← dec_itoa n h0]; exact dd_len (by omega)
set_option maxRecDepth 100000 in
set_option maxHeartbeats 2000000 in
theorem rline_any (x : Tri) (w : World) (ho : x.a = 1 ∨ x.a = 2 ∨ x.a = 3) (h0 : 0 ≤ x.b) (h1 : x.b ≤ 22) (hs : x.s.size ≤ 1000000) :
    Calls Tryz.prog 38 #[.agg #[.int .i64 x.a, .int .i64 x.b, .string x.s]] w (Ret (.string (bN (lineR x))) w) := by
  have HD := Lib.hid (fun w' => rdig_any x.b (by omega) (by omega) w')
  have hdl := itoa_two h0 h1
  have hl := lineR_of (x := x) rfl
  rw [dec_itoa x.b h0] at hl
  obtain ⟨d, hd⟩ : ∃ d, Hid (Lib.itoa x.b = d) := ⟨_, Lib.hid rfl⟩
  rw [hd.out] at HD hdl hl
  obtain ⟨R, hR⟩ : ∃ R, Hid (lineR x = R) := ⟨_, Lib.hid rfl⟩
  rw [hR.out] at hl ⊢
  have HL := Lib.hid hl
  have zd : (bN d).size = d.length := rfl
  have z32 : (⟨#[32]⟩ : ByteArray).size = 1 := rfl
  have y1 : (⟨#[32]⟩ : ByteArray).size + (bN d).size ≤ 9223372036854775807 := by rw [z32, zd]; omega
  have zsd : (⟨#[32]⟩ ++ bN d : ByteArray).size = 1 + d.length := by rw [ByteArray.size_append, z32, zd]
  have kB := Blk.new w 52 #[.int .i64 x.a, .int .i64 x.b, .string x.s]
  have hB0 : Below w.heap.size w (w.alloc (.cells #[.int .i64 x.a, .int .i64 x.b, .string x.s] 52)) := (Below.refl _ _).alloc (Nat.le_refl _) _
  clear hl hd hR
  obtain ⟨a, b, s⟩ := x
  simp only at *
  rcases ho with rfl | rfl | rfl
  · have y2 : (⟨#[114, 101, 97, 99, 104]⟩ : ByteArray).size + (⟨#[32]⟩ ++ bN d : ByteArray).size ≤ 9223372036854775807 := by rw [zsd, show (⟨#[114, 101, 97, 99, 104]⟩ : ByteArray).size = 5 from rfl]; omega
    have hcat : Hid ((⟨#[114, 101, 97, 99, 104]⟩ : ByteArray) ++ (⟨#[32]⟩ ++ bN d) = bN R) := by
      rw [Hid, HL.out, show (⟨#[114, 101, 97, 99, 104]⟩ : ByteArray) = bN [114, 101, 97, 99, 104] from rfl, show (⟨#[32]⟩ : ByteArray) = bN [32] from rfl, bN_cat15, bN_cat15]
      simp [nameB, sufB]
    clear HL
    go_enter Tryz.func38, Tryz.ntmps38
    go_wp2_with fail
    refine (HD.out _).mono ?_
    rintro e9 w1 ⟨rfl, hB1⟩
    have k1 := kB.below' hB1
    have q0 := k1.cell 0 _ rfl
    have q2 := k1.cell 2 _ rfl
    go_wp2_with fail
    go_ret
    rw [hcat.out]
    exact ⟨rfl, hB0.trans (hB1.mono hB0.size)⟩
  · by_cases hz : s.size = 0
    · have hse := bytes_nil hz
      subst hse
      have zn : (⟨#[115, 116, 105, 116, 99, 104]⟩ : ByteArray).size = 6 := rfl
      have z45 : (⟨#[32, 45]⟩ : ByteArray).size = 2 := rfl
      have y2 : (⟨#[115, 116, 105, 116, 99, 104]⟩ : ByteArray).size + (⟨#[32]⟩ ++ bN d : ByteArray).size ≤ 9223372036854775807 := by rw [zsd, zn]; omega
      have y3 : ((⟨#[115, 116, 105, 116, 99, 104]⟩ : ByteArray) ++ (⟨#[32]⟩ ++ bN d : ByteArray)).size + (⟨#[32, 45]⟩ : ByteArray).size ≤ 9223372036854775807 := by rw [ByteArray.size_append, zsd, zn, z45]; omega
      have hcat : Hid ((⟨#[115, 116, 105, 116, 99, 104]⟩ : ByteArray) ++ (⟨#[32]⟩ ++ bN d) ++ ⟨#[32, 45]⟩ = bN R) := by
        rw [Hid, HL.out, show (⟨#[115, 116, 105, 116, 99, 104]⟩ : ByteArray) = bN [115, 116, 105, 116, 99, 104] from rfl, show (⟨#[32]⟩ : ByteArray) = bN [32] from rfl, show (⟨#[32, 45]⟩ : ByteArray) = bN [32, 45] from rfl, bN_cat15, bN_cat15, bN_cat15]
        simp [nameB, sufB, hz]
      clear HL hz hs
      go_enter Tryz.func38, Tryz.ntmps38
      go_wp2_with fail
      refine (HD.out _).mono ?_
      rintro e9 w1 ⟨rfl, hB1⟩
      have k1 := kB.below' hB1
      have q0 := k1.cell 0 _ rfl
      have q2 := k1.cell 2 _ rfl
      go_wp2_with fail
      go_ret
      rw [hcat.out]
      exact ⟨rfl, hB0.trans (hB1.mono hB0.size)⟩
    · have h' : ¬ s = ByteArray.empty := fun e => hz (by rw [e]; rfl)
      have h3 : s.toList.isEmpty = false := by rw [bempt]; simp [hz]
      have h4 : (s.toList == []) = false := by
        rw [beq_eq_false_iff_ne]; intro e; rw [e] at h3; cases h3
      have zn : (⟨#[115, 116, 105, 116, 99, 104]⟩ : ByteArray).size = 6 := rfl
      have y2 : (⟨#[115, 116, 105, 116, 99, 104]⟩ : ByteArray).size + (⟨#[32]⟩ ++ bN d : ByteArray).size ≤ 9223372036854775807 := by rw [zsd, zn]; omega
      have y3 : ((⟨#[115, 116, 105, 116, 99, 104]⟩ : ByteArray) ++ (⟨#[32]⟩ ++ bN d : ByteArray)).size + (⟨#[32]⟩ : ByteArray).size ≤ 9223372036854775807 := by rw [ByteArray.size_append, zsd, zn, z32]; omega
      have y4 : ((⟨#[115, 116, 105, 116, 99, 104]⟩ : ByteArray) ++ (⟨#[32]⟩ ++ bN d : ByteArray) ++ ⟨#[32]⟩).size + s.size ≤ 9223372036854775807 := by rw [ByteArray.size_append, ByteArray.size_append, zsd, zn, z32]; omega
      have hcat : Hid ((⟨#[115, 116, 105, 116, 99, 104]⟩ : ByteArray) ++ (⟨#[32]⟩ ++ bN d) ++ ⟨#[32]⟩ ++ s = bN R) := by
        rw [Hid, HL.out, show (⟨#[115, 116, 105, 116, 99, 104]⟩ : ByteArray) = bN [115, 116, 105, 116, 99, 104] from rfl, show (⟨#[32]⟩ : ByteArray) = bN [32] from rfl, bN_cat15, bN_cat15, bN_cat15]
        have hb : s = bN s.data.toList := (bytes_of s).symm
        conv => lhs; rw [hb]
        rw [bN_cat15]
        simp [nameB, sufB, hz]
      have HZ := Lib.hid hz
      clear HL hz hs
      go_enter Tryz.func38, Tryz.ntmps38
      go_wp2_with fail
      refine (HD.out _).mono ?_
      rintro e9 w1 ⟨rfl, hB1⟩
      have k1 := kB.below' hB1
      have q0 := k1.cell 0 _ rfl
      have q2 := k1.cell 2 _ rfl
      go_wp2_with fail
      go_ret
      rw [hcat.out]
      exact ⟨rfl, hB0.trans (hB1.mono hB0.size)⟩
  · have y2 : (⟨#[115, 101, 119]⟩ : ByteArray).size + (⟨#[32]⟩ ++ bN d : ByteArray).size ≤ 9223372036854775807 := by rw [zsd, show (⟨#[115, 101, 119]⟩ : ByteArray).size = 3 from rfl]; omega
    have hcat : Hid ((⟨#[115, 101, 119]⟩ : ByteArray) ++ (⟨#[32]⟩ ++ bN d) = bN R) := by
      rw [Hid, HL.out, show (⟨#[115, 101, 119]⟩ : ByteArray) = bN [115, 101, 119] from rfl, show (⟨#[32]⟩ : ByteArray) = bN [32] from rfl, bN_cat15, bN_cat15]
      simp [nameB, sufB]
    clear HL
    go_enter Tryz.func38, Tryz.ntmps38
    go_wp2_with fail
    refine (HD.out _).mono ?_
    rintro e9 w1 ⟨rfl, hB1⟩
    have k1 := kB.below' hB1
    have q0 := k1.cell 0 _ rfl
    have q2 := k1.cell 2 _ rfl
    go_wp2_with fail
    go_ret
    rw [hcat.out]
    exact ⟨rfl, hB0.trans (hB1.mono hB0.size)⟩
end Go.Proofs.YtmfklcnocekdlaaGreatDoor
