/- Walk of the law StsBack: a wish's text wishes it again, in the other forms too. -/
import Derived.Test.YtnmdcbneoipllaaDoorSt14
import Derived.Test.YtnmdcbneoipllaaDoorStsTexts
namespace Go.Proofs.YtnmdcbneoipllaaDoor
open Go.RowKit Go.Lib Go.Proofs.Foot

/-- The wish lies in block g; of what w0 had nothing has turned. -/
structure WishAt (w0 : World) (g : Nat) (n : Int) (b : Bool) (w : World) : Prop where
  age : w.cell? ⟨g, 0, none⟩ = some (.int .i64 n)
  subs : w.cell? ⟨g, 1, none⟩ = some (.bool b)
  lt : g < w.heap.size
  below : Below w0.heap.size w0 w
theorem WishAt.go {w0 w w' : World} {g : Nat} {n : Int} {b : Bool} (h : WishAt w0 g n b w) (hb : Below w.heap.size w w') : WishAt w0 g n b w' :=
  ⟨(hb.cell (p := ⟨g, 0, none⟩) h.lt).trans h.age, (hb.cell (p := ⟨g, 1, none⟩) h.lt).trans h.subs, Nat.lt_of_lt_of_le h.lt hb.size, below_chain h.below hb⟩
theorem WishAt.drew {w0 w : World} {g : Nat} {n : Int} {b : Bool} (h : WishAt w0 g n b w) : WishAt w0 g n b w.drew := ⟨h.age, h.subs, h.lt, h.below.drew⟩
theorem WishAt.start (w : World) (n : Int) (b : Bool) : WishAt w w.heap.size n b (w.alloc (.cells #[.int .i64 n, .bool b] 23)) :=
  ⟨by rw [World.cell?_alloc_at _ _ _ _ rfl]; rfl, by rw [World.cell?_alloc_at _ _ _ _ rfl]; rfl, by simp, (Below.refl _ _).alloc (Nat.le_refl _) _⟩
/-- Its cells by themselves, too. -/
def WishS (w0 : World) (g : Nat) (n : Int) (b : Bool) (w : World) : Prop := w.cell? ⟨g, 0, none⟩ = some (.int .i64 n) ∧ w.cell? ⟨g, 1, none⟩ = some (.bool b) ∧ WishAt w0 g n b w
theorem WishAt.s {w0 w : World} {g : Nat} {n : Int} {b : Bool} (h : WishAt w0 g n b w) : w.cell? ⟨g, 0, none⟩ = some (.int .i64 n) ∧ w.cell? ⟨g, 1, none⟩ = some (.bool b) ∧ WishAt w0 g n b w := ⟨h.age, h.subs, h⟩
theorem is_in {w0 w : World} (G : GoodP w0) {g : Nat} {n : Nat} {b : Bool} (h : w.cell? ⟨g, 0, none⟩ = some (.int .i64 n) ∧ w.cell? ⟨g, 1, none⟩ = some (.bool b) ∧ WishAt w0 g n b w) (s : ByteArray) (hs : s.size ≤ 65536) {m : Nat} {c : Bool} (hp : parseS s.data.toList = some (m, c)) :
    Calls Tryd.prog 17 #[.string s, .int .i64 m, .bool c] w fun e w' => e = .returned (.bool true) ∧ Below w.heap.size w w' := is_yes s hs trivial m c hp w (G.below h.2.2.below)
theorem is_inH {w0 w : World} (G : GoodP w0) {g : Nat} {n : Nat} {b : Bool} (h : w.cell? ⟨g, 0, none⟩ = some (.int .i64 n) ∧ w.cell? ⟨g, 1, none⟩ = some (.bool b) ∧ WishAt w0 g n b w) (s : ByteArray) (hs : s.size ≤ 65536) {m : Nat} {c : Bool} (hp : Hid (parseS s.data.toList = some (m, c))) :
    Calls Tryd.prog 17 #[.string s, .int .i64 m, .bool c] w fun e w' => e = .returned (.bool true) ∧ Below w.heap.size w w' := is_in G h s hs hp.out
theorem bad_inH {w0 w : World} (G : GoodP w0) {g : Nat} {n : Nat} {b : Bool} (h : w.cell? ⟨g, 0, none⟩ = some (.int .i64 n) ∧ w.cell? ⟨g, 1, none⟩ = some (.bool b) ∧ WishAt w0 g n b w) (s : ByteArray) (hs : s.size ≤ 65536) (hp : Hid (parseS s.data.toList = none)) :
    Calls Tryd.prog 20 #[.string s] w fun e w' => e = .returned (.bool true) ∧ Below w.heap.size w w' := bad_yes s hs trivial hp.out w (G.below h.2.2.below)
theorem bad_in {w0 w : World} (G : GoodP w0) {g : Nat} {n : Nat} {b : Bool} (h : w.cell? ⟨g, 0, none⟩ = some (.int .i64 n) ∧ w.cell? ⟨g, 1, none⟩ = some (.bool b) ∧ WishAt w0 g n b w) (s : ByteArray) (hs : s.size ≤ 65536) (hp : parseS s.data.toList = none) :
    Calls Tryd.prog 20 #[.string s] w fun e w' => e = .returned (.bool true) ∧ Below w.heap.size w w' := bad_yes s hs trivial hp w (G.below h.2.2.below)
theorem alive_in {w0 w : World} (G : GoodP w0) {g : Nat} {n : Nat} {b : Bool} (h : w.cell? ⟨g, 0, none⟩ = some (.int .i64 n) ∧ w.cell? ⟨g, 1, none⟩ = some (.bool b) ∧ WishAt w0 g n b w) :
    Calls Tryd.prog 15 #[] w fun e w' => e = .returned (.bool true) ∧ Below w.heap.size w w' := alive_any w (G.below h.2.2.below)
theorem add_is {s t r : ByteArray} (hr : r = s ++ t) (hs : (s.size : Int) ≤ 8388608) (ht : (t.size : Int) ≤ 8388608) : ∀ V, (Op.stringOp .add s t).run Tryd.prog V = .ok (.string r) V := fun V => by rw [hr]; exact run_string_add V _ _ hs ht
theorem wishT_size (n : Nat) (b : Bool) (hn : n ≤ 2147483647) : (wishT n b).size ≤ 60 := by
  have h := decT_size (n := n) (by omega)
  unfold wishT
  cases b
  · rw [cond_false, cat_z]; show 8 + _ ≤ _; omega
  · rw [cond_true, cat_z, cat_z]; show 8 + _ + 19 ≤ _; omega
def inclUT : ByteArray := ⟨#[73, 78, 67, 76, 85, 68, 69, 83, 85, 66, 68, 79, 77, 65, 73, 78, 83]⟩
def backC : ByteArray := ⟨#[32, 59, 9, 77, 97, 120, 45, 65, 103, 101, 9, 61, 32, 34]⟩

set_option maxHeartbeats 4000000 in
set_option maxRecDepth 100000 in
theorem stsBack_no (n : Int) (hn : ¬ (0 ≤ n ∧ n ≤ 2147483647)) (b : Bool) (x : UInt8) (w : World) (G : GoodP w) :
    Calls Tryd.prog 5 #[.agg #[.int .i64 n, .bool b], .int .u8 x.toNat] w fun e w' => e = .returned (.bool true) ∧ Below w.heap.size w w' := by
  have HT := hid (fun w => textA_no n b hn w)
  have HA := hid (fun w G => alive_any w G)
  have W0 := hid (WishAt.start w n b)
  have HG := hid G
  clear G
  by_cases h0 : n < 0
  · clear hn
    go_enter Tryd.func5, Tryd.ntmps5
    go_wp2_with fail
    have c0 := W0.out.age
    have c1 := W0.out.subs
    generalize w.alloc _ = w1 at *
    refine (HT.out _).mono ?_
    rintro e w2 ⟨rfl, hb2⟩
    have W2 := hid (W0.out.go hb2)
    clear hb2 c0 c1
    go_wp2_with fail
    refine (HA.out _ (HG.out.below W2.out.below)).mono ?_
    rintro e w3 ⟨rfl, hb3⟩
    have W3 := hid (W2.out.go hb3)
    have c0 := W3.out.age
    clear hb3
    go_wp2
    go_ret
    exact ⟨rfl, W3.out.below⟩
  · have h1 : n > 2147483647 := by omega
    clear hn
    go_enter Tryd.func5, Tryd.ntmps5
    go_wp2_with fail
    have c0 := W0.out.age
    have c1 := W0.out.subs
    generalize w.alloc _ = w1 at *
    refine (HT.out _).mono ?_
    rintro e w2 ⟨rfl, hb2⟩
    have W2 := hid (W0.out.go hb2)
    clear hb2 c0 c1
    go_wp2_with fail
    refine (HA.out _ (HG.out.below W2.out.below)).mono ?_
    rintro e w3 ⟨rfl, hb3⟩
    have W3 := hid (W2.out.go hb3)
    have c0 := W3.out.age
    clear hb3
    go_wp2
    go_ret
    exact ⟨rfl, W3.out.below⟩

set_option maxHeartbeats 4000000 in
set_option maxRecDepth 100000 in
theorem stsBack_yes (n : Nat) (hn : n ≤ 2147483647) (b : Bool) (x : UInt8) (w : World) (G : GoodP w) :
    Calls Tryd.prog 5 #[.agg #[.int .i64 n, .bool b], .int .u8 x.toNat] w fun e w' => e = .returned (.bool true) ∧ Below w.heap.size w w' := by
  have HT := hid (fun w G => textA_yes n b hn w G)
  have HD := hid (fun w => digits_any n (by unfold U64; omega) w)
  have W0 := hid (WishAt.start w n b)
  have HG := hid G
  have n0 : (0 : Int) ≤ n := by omega
  have n1 : (n : Int) ≤ 2147483647 := by omega
  have hwT := wishT_size n b hn
  obtain ⟨T, hT⟩ : ∃ T, T = wishT n b := ⟨_, rfl⟩
  rw [← hT] at hwT
  have HT0 := hid (show parseS T.data.toList = some (n, b) by rw [hT, wishT_l]; exact parse_wish n b hn)
  rw [← hT] at HT
  obtain ⟨z, hz⟩ : ∃ z : Nat, (x.toNat : Int) % 30 = (z : Int) := ⟨x.toNat % 30, by omega⟩
  have hz30 : z < 30 := by omega
  have e30 : (x.toNat : Int).tmod 30 = (z : Int) := by rw [Int.tmod_eq_emod_of_nonneg (by omega)]; exact hz
  obtain ⟨D, hD⟩ : ∃ D : ByteArray, D = ⟨(Lib.decDigits n).toArray⟩ := ⟨_, rfl⟩
  have hDz : D.size ≤ 20 := by rw [hD]; exact decT_size (n := n) (by omega)
  have HDl := hid (show D.data.toList = Lib.decDigits n by rw [hD])
  rw [← hD] at HD
  have hn' := hid hn
  clear G hT hD hn hz
  go_enter Tryd.func5, Tryd.ntmps5
  go_wp2_with fail
  have c0 := W0.out.age
  have c1 := W0.out.subs
  generalize w.alloc _ = w1 at *
  refine (HT.out _ (HG.out.below W0.out.below).good).mono ?_
  rintro e w2 ⟨rfl, hb2⟩
  have W2 := hid (W0.out.go hb2)
  clear hb2 c0 c1
  have c0 := W2.out.age
  have c1 := W2.out.subs
  go_wp2_with fail
  refine (HD.out _).mono ?_
  rintro e w' ⟨rfl, rfl⟩
  go_wp2
  go_loop [7, 8] (fun ss i => ∃ (k : Nat) (N : ByteArray), k ≤ z ∧ i = .int .i64 k ∧ ss = .string N ∧ N.size ≤ k + 20 ∧ Hid (N.data.toList = List.replicate k 48 ++ Lib.decDigits n)) (fun _ i => z - (RowKit.intOf i).toNat)
  case atStart => exact ⟨0, D, Nat.zero_le _, rfl, rfl, by omega, hid (by rw [HDl.out]; rfl)⟩
  case round =>
    obtain ⟨k, N, hk, rfl, rfl, hNs, HN⟩ := hrel
    by_cases hlt : k < z
    · have hki : (k : Int) < (z : Int) := by omega
      have hNz : (N.size : Int) ≤ 8388608 := by omega
      have Hn : Hid ((⟨#[48]⟩ ++ N : ByteArray).data.toList = List.replicate (k + 1) 48 ++ Lib.decDigits n) := hid (by
        rw [cat_l, HN.out, List.replicate_succ]; rfl)
      have hs1 : (⟨#[48]⟩ ++ N : ByteArray).size ≤ k + 1 + 20 := by rw [cat_z]; show 1 + _ ≤ _; omega
      go_wp2
      go_round
      case rel => exact ⟨k + 1, _, by omega, by go_num, rfl, hs1, Hn⟩
      case measure => simp [RowKit.intOf]; omega
    · have hki : ¬ (k : Int) < (z : Int) := by omega
      cases b
      · go_wp2
        have zN : (N.size : Int) ≤ 8388608 := by omega
        obtain ⟨L1, hL1⟩ : ∃ r : ByteArray, r = (⟨#[]⟩ : ByteArray) ++ ⟨#[32, 59, 9, 77, 97, 120, 45, 65, 103, 101, 9, 61, 32, 34]⟩ := ⟨_, rfl⟩
        obtain ⟨L2, hL2⟩ : ∃ r : ByteArray, r = L1 ++ N := ⟨_, rfl⟩
        obtain ⟨L3, hL3⟩ : ∃ r : ByteArray, r = L2 ++ ⟨#[34]⟩ := ⟨_, rfl⟩
        obtain ⟨M1, hM1⟩ : ∃ r : ByteArray, r = (⟨#[109, 97, 120, 45, 97, 103, 101, 61]⟩ : ByteArray) ++ N := ⟨_, rfl⟩
        obtain ⟨M2, hM2⟩ : ∃ r : ByteArray, r = M1 ++ ⟨#[59]⟩ := ⟨_, rfl⟩
        obtain ⟨M3, hM3⟩ : ∃ r : ByteArray, r = M2 ++ ⟨#[]⟩ := ⟨_, rfl⟩
        have s1 : L1.size = 14 := by rw [hL1]; rfl
        have s2 : L2.size = 14 + N.size := by rw [hL2, cat_z, s1]
        have s3 : L3.size = 14 + N.size + 1 := by rw [hL3, cat_z, s2]; rfl
        have t1 : M1.size = 8 + N.size := by rw [hM1, cat_z]; rfl
        have t2 : M2.size = 8 + N.size + 1 := by rw [hM2, cat_z, t1]; rfl
        have t3 : M3.size = 8 + N.size + 1 + 0 := by rw [hM3, cat_z, t2]; rfl
        have p3 := hid (show parseS L3.data.toList = some (n, false) by
          have e : L3.data.toList = (bif false then inclU else []) ++ 32 :: 59 :: 9 :: (maxG ++ 9 :: 61 :: 32 :: 34 :: ((List.replicate k 48 ++ Lib.decDigits n) ++ [34])) := by
            rw [hL3, cat_l, hL2, cat_l, hL1, cat_l, HN.out]; simp [inclU, maxG]
          rw [e]
          exact back_quoted false hn'.out (noughts_all k n) (noughts_ne k n) (by rw [digV_noughts, digV_decDigits]))
        have q3 := hid (show parseS M3.data.toList = some (n, false) by
          have e : M3.data.toList = maxAgeL ++ 61 :: ((List.replicate k 48 ++ Lib.decDigits n) ++ 59 :: (bif false then inclL else [])) := by
            rw [hM3, cat_l, hM2, cat_l, hM1, cat_l, HN.out]; simp [inclL, maxAgeL]
          rw [e]
          exact back_other false hn'.out (noughts_all k n) (noughts_ne k n) (by rw [digV_noughts, digV_decDigits]))
        have a1 := add_is hL1 (by decide) (by decide)
        have a2 := add_is hL2 (by omega) (by omega)
        have a3 := add_is hL3 (by omega) (by decide)
        have b1 := add_is hM1 (by decide) (by omega)
        have b2 := add_is hM2 (by omega) (by decide)
        have b3 := add_is hM3 (by omega) (by decide)
        have HLow := hid (fun w => lower_is ⟨#[]⟩ ⟨#[]⟩ (by decide) (by decide) w)
        have s3' : L3.size ≤ 65536 := by omega
        have t3' : M3.size ≤ 65536 := by omega
        have hT' : T.size ≤ 65536 := by omega
        clear hL1 hL2 hL3 hM1 hM2 hM3 s1 s2 s3 t1 t2 t3 hki hlt hk HD HT hwT hz30 e30 zN hNs
        go_region_held3 (fun w' => w'.cell? ⟨w.heap.size, 0, none⟩ = some (.int .i64 n) ∧ w'.cell? ⟨w.heap.size, 1, none⟩ = some (.bool false) ∧ WishAt w w.heap.size n false w') (first
            | exact (WishAt.go (And.right (And.right ‹_›)) ‹_›).s
            | exact (W2.out.drew).s)
          (first
            | (go_at_call 15; refine (alive_in HG.out (by assumption)).mono ?_; rintro e w5 ⟨rfl, hb5⟩)
            | (go_at_call 18; refine (HLow.out _).mono ?_; rintro e w5 ⟨rfl, hb5⟩)
            | (go_at_call 17; refine (is_inH HG.out (by assumption) _ (by assumption) (by assumption)).mono ?_; rintro e w5 ⟨rfl, hb5⟩))
        rename_i hH
        have HF := hid hH.2.2
        clear hH
        go_wp2
        go_ret
        exact ⟨rfl, HF.out.below⟩
      · go_wp2
        have zN : (N.size : Int) ≤ 8388608 := by omega
        obtain ⟨L1, hL1⟩ : ∃ r : ByteArray, r = (⟨#[73, 78, 67, 76, 85, 68, 69, 83, 85, 66, 68, 79, 77, 65, 73, 78, 83]⟩ : ByteArray) ++ ⟨#[32, 59, 9, 77, 97, 120, 45, 65, 103, 101, 9, 61, 32, 34]⟩ := ⟨_, rfl⟩
        obtain ⟨L2, hL2⟩ : ∃ r : ByteArray, r = L1 ++ N := ⟨_, rfl⟩
        obtain ⟨L3, hL3⟩ : ∃ r : ByteArray, r = L2 ++ ⟨#[34]⟩ := ⟨_, rfl⟩
        obtain ⟨M1, hM1⟩ : ∃ r : ByteArray, r = (⟨#[109, 97, 120, 45, 97, 103, 101, 61]⟩ : ByteArray) ++ N := ⟨_, rfl⟩
        obtain ⟨M2, hM2⟩ : ∃ r : ByteArray, r = M1 ++ ⟨#[59]⟩ := ⟨_, rfl⟩
        obtain ⟨M3, hM3⟩ : ∃ r : ByteArray, r = M2 ++ ⟨#[105, 110, 99, 108, 117, 100, 101, 115, 117, 98, 100, 111, 109, 97, 105, 110, 115]⟩ := ⟨_, rfl⟩
        have s1 : L1.size = 31 := by rw [hL1]; rfl
        have s2 : L2.size = 31 + N.size := by rw [hL2, cat_z, s1]
        have s3 : L3.size = 31 + N.size + 1 := by rw [hL3, cat_z, s2]; rfl
        have t1 : M1.size = 8 + N.size := by rw [hM1, cat_z]; rfl
        have t2 : M2.size = 8 + N.size + 1 := by rw [hM2, cat_z, t1]; rfl
        have t3 : M3.size = 8 + N.size + 1 + 17 := by rw [hM3, cat_z, t2]; rfl
        have p3 := hid (show parseS L3.data.toList = some (n, true) by
          have e : L3.data.toList = (bif true then inclU else []) ++ 32 :: 59 :: 9 :: (maxG ++ 9 :: 61 :: 32 :: 34 :: ((List.replicate k 48 ++ Lib.decDigits n) ++ [34])) := by
            rw [hL3, cat_l, hL2, cat_l, hL1, cat_l, HN.out]; simp [inclU, maxG]
          rw [e]
          exact back_quoted true hn'.out (noughts_all k n) (noughts_ne k n) (by rw [digV_noughts, digV_decDigits]))
        have q3 := hid (show parseS M3.data.toList = some (n, true) by
          have e : M3.data.toList = maxAgeL ++ 61 :: ((List.replicate k 48 ++ Lib.decDigits n) ++ 59 :: (bif true then inclL else [])) := by
            rw [hM3, cat_l, hM2, cat_l, hM1, cat_l, HN.out]; simp [inclL, maxAgeL]
          rw [e]
          exact back_other true hn'.out (noughts_all k n) (noughts_ne k n) (by rw [digV_noughts, digV_decDigits]))
        have a1 := add_is hL1 (by decide) (by decide)
        have a2 := add_is hL2 (by omega) (by omega)
        have a3 := add_is hL3 (by omega) (by decide)
        have b1 := add_is hM1 (by decide) (by omega)
        have b2 := add_is hM2 (by omega) (by decide)
        have b3 := add_is hM3 (by omega) (by decide)
        have HLow := hid (fun w => lower_is ⟨#[73, 78, 67, 76, 85, 68, 69, 83, 85, 66, 68, 79, 77, 65, 73, 78, 83]⟩ ⟨#[105, 110, 99, 108, 117, 100, 101, 115, 117, 98, 100, 111, 109, 97, 105, 110, 115]⟩ (by decide) (by decide) w)
        have s3' : L3.size ≤ 65536 := by omega
        have t3' : M3.size ≤ 65536 := by omega
        have hT' : T.size ≤ 65536 := by omega
        clear hL1 hL2 hL3 hM1 hM2 hM3 s1 s2 s3 t1 t2 t3 hki hlt hk HD HT hwT hz30 e30 zN hNs
        go_region_held3 (fun w' => w'.cell? ⟨w.heap.size, 0, none⟩ = some (.int .i64 n) ∧ w'.cell? ⟨w.heap.size, 1, none⟩ = some (.bool true) ∧ WishAt w w.heap.size n true w') (first
            | exact (WishAt.go (And.right (And.right ‹_›)) ‹_›).s
            | exact (W2.out.drew).s)
          (first
            | (go_at_call 15; refine (alive_in HG.out (by assumption)).mono ?_; rintro e w5 ⟨rfl, hb5⟩)
            | (go_at_call 18; refine (HLow.out _).mono ?_; rintro e w5 ⟨rfl, hb5⟩)
            | (go_at_call 17; refine (is_inH HG.out (by assumption) _ (by assumption) (by assumption)).mono ?_; rintro e w5 ⟨rfl, hb5⟩))
        rename_i hH
        have HF := hid hH.2.2
        clear hH
        go_wp2
        go_ret
        exact ⟨rfl, HF.out.below⟩
theorem stsBack_walk (n : Int) (_wn : (Lit.int .i64 n).wf = true) (b : Bool) (x : Int) (wx : (Lit.int .u8 x).wf = true) (w : World) (hL : laidMetH Tryd.prog Rows.stsBackRow.laid w) (hsh : w.ShapedOpen Tryd.prog) :
    Calls Tryd.prog 5 #[.agg #[.int .i64 n, .bool b], .int .u8 x] w fun e w' => e = .returned (.bool true) ∧ Below w.heap.size w w' := by
  obtain ⟨c, rfl⟩ := u8_of wx
  have G := goodP_of hL (by kernel_rfl) (by kernel_rfl) (by kernel_rfl) hsh
  by_cases h : 0 ≤ n ∧ n ≤ 2147483647
  · obtain ⟨m, rfl⟩ := Int.eq_ofNat_of_zero_le h.1
    exact stsBack_yes m (by omega) b c w G
  · exact stsBack_no n h b c w G
end Go.Proofs.YtnmdcbneoipllaaDoor
