/- Plain law of AddrsNames, AddrsPieces and AddrsForms. -/
import Derived.Test.YtiookngmgednjaaDoorSpec04d
namespace Go.Proofs.YtiookngmgednjaaDoor
open Go.Lib Go.Proofs.Foot

-- names
theorem four_name {l p : List UInt8} {c : UInt8} (hc : digB c = false) (h48 : c ≠ 48) (h : (partsFour l).getLast? = some (c :: p)) : fourS l = (noughts 16, false, 0) := by
  unfold fourS
  rw [h]
  have hl : likeB (c :: p) = false := by
    unfold likeB
    have hx : hexedB (c :: p) = false := by
      cases p with
      | nil => rfl
      | cons d p =>
        show (c == 48 && (d == 120 || d == 88)) = false
        rw [beq_eq_false_iff_ne.2 h48]; rfl
    rw [if_neg (by rw [hx]; decide), List.all_cons, hc]
    simp
  rw [Option.getD_some, if_neg (by rw [hl]; decide)]
theorem parts_name {s last : List UInt8} (hf : (46 : UInt8) ∉ last) (hne : last ≠ []) :
    (partsFour last).getLast? = some last ∧ (partsFour (s ++ 46 :: last)).getLast? = some last ∧ (partsFour (s ++ 46 :: last ++ [46])).getLast? = some last := by
  refine ⟨?_, ?_, ?_⟩
  · unfold partsFour
    rw [cutAt_free hf, if_neg (by simp)]; rfl
  · unfold partsFour
    rw [cutAt_append, cutAt_free hf, if_neg]
    · simp
    · rintro ⟨_, h⟩
      simp at h
      exact hne h
  · unfold partsFour
    have e : s ++ 46 :: last ++ [46] = s ++ 46 :: (last ++ 46 :: []) := by simp
    rw [e, cutAt_append, cutAt_at hf, show cutAt 46 [] = [[]] from rfl, if_pos]
    · rw [show cutAt 46 s ++ [last, []] = (cutAt 46 s ++ [last]) ++ [[]] from by simp, List.dropLast_concat]
      simp
    · refine ⟨by simp, by simp⟩
-- pieces with all their noughts
def hxG (g : Bool) (d : Nat) : UInt8 := UInt8.ofNat (if d < 10 then 48 + d else if g then 55 + d else 87 + d)
theorem hxG_facts : ∀ g : Bool, ∀ d < 16, hexI (hxG g d) = d ∧ hxG g d ≠ 58 ∧ hxG g d ≠ 46 := by decide +kernel
def byteG (g : Bool) (b : UInt8) : List UInt8 := [hxG g (b.toNat / 16), hxG g (b.toNat % 16)]
def pieceG (g : Bool) (a b : UInt8) : List UInt8 := byteG g a ++ byteG g b
theorem pieceG_is (g : Bool) (a b : UInt8) : pieceP (pieceG g a b) = some [a, b] := by
  have ha := a.toNat_lt
  have hb := b.toNat_lt
  have h1 := hxG_facts g (a.toNat / 16) (by omega)
  have h2 := hxG_facts g (a.toNat % 16) (by omega)
  have h3 := hxG_facts g (b.toNat / 16) (by omega)
  have h4 := hxG_facts g (b.toNat % 16) (by omega)
  have hc : cntB 16 (pieceG g a b) = some (256 * a.toNat + b.toNat) := by
    unfold cntB
    have hok : ∀ d : UInt8, ∀ m : Nat, m < 16 → hexI d = m → okB 16 d = true := fun d m hm h => by unfold okB; rw [h]; simp; omega
    have hall : (pieceG g a b).all (okB 16) = true := by
      unfold pieceG byteG
      simp only [List.cons_append, List.nil_append, List.all_cons, List.all_nil, Bool.and_true]
      rw [hok _ _ (by omega) h1.1, hok _ _ (by omega) h2.1, hok _ _ (by omega) h3.1, hok _ _ (by omega) h4.1]; rfl
    rw [if_pos hall]
    unfold pieceG byteG
    rw [List.cons_append, List.cons_append, List.nil_append, valB_cons, valB_cons, valB_cons, valB_cons, valB_nil, h1.1, h2.1, h3.1, h4.1]
    congr 1
    simp only [Int.toNat_natCast]
    omega
  unfold pieceP
  rw [hc]
  show (if 1 ≤ (pieceG g a b).length ∧ (pieceG g a b).length ≤ 4 then _ else _) = _
  rw [if_pos ⟨by simp [pieceG, byteG], by simp [pieceG, byteG]⟩]
  exact congrArg some (twoB_of a b)
theorem pieceG_good (g : Bool) (a b : UInt8) : pieceG g a b ≠ [] ∧ (58 : UInt8) ∉ pieceG g a b := by
  have ha := a.toNat_lt
  have hb := b.toNat_lt
  refine ⟨by simp [pieceG, byteG], ?_⟩
  have h1 := (hxG_facts g (a.toNat / 16) (by omega)).2.1
  have h2 := (hxG_facts g (a.toNat % 16) (by omega)).2.1
  have h3 := (hxG_facts g (b.toNat / 16) (by omega)).2.1
  have h4 := (hxG_facts g (b.toNat % 16) (by omega)).2.1
  unfold pieceG byteG
  simp only [List.cons_append, List.nil_append, List.mem_cons, List.not_mem_nil, or_false, not_or]
  exact ⟨h1.symm, h2.symm, h3.symm, h4.symm⟩
theorem bytesP_G (g : Bool) (a b : UInt8) : pieceP (pieceG g a b) = some (bytesP (pieceG g a b)) ∧ bytesP (pieceG g a b) = [a, b] := by
  unfold bytesP; rw [pieceG_is]; exact ⟨rfl, rfl⟩
/-- The first pieces (of 16 bytes). -/
def pcs (g : Bool) (b0 b1 b2 b3 b4 b5 b6 b7 b8 b9 b10 b11 : UInt8) : List (List UInt8) := [pieceG g b0 b1, pieceG g b2 b3, pieceG g b4 b5, pieceG g b6 b7, pieceG g b8 b9, pieceG g b10 b11]
theorem six_full (g : Bool) (b0 b1 b2 b3 b4 b5 b6 b7 b8 b9 b10 b11 b12 b13 b14 b15 : UInt8) :
    sixS (Lib.join (pcs g b0 b1 b2 b3 b4 b5 b6 b7 b8 b9 b10 b11 ++ [pieceG g b12 b13, pieceG g b14 b15]) [58]) = (true, [b0, b1, b2, b3, b4, b5, b6, b7, b8, b9, b10, b11, b12, b13, b14, b15], 0) := by
  have hb : (pcs g b0 b1 b2 b3 b4 b5 b6 b7 b8 b9 b10 b11 ++ [pieceG g b12 b13, pieceG g b14 b15]).flatMap bytesP = [b0, b1, b2, b3, b4, b5, b6, b7, b8, b9, b10, b11, b12, b13, b14, b15] := by
    simp only [pcs, List.cons_append, List.nil_append, List.flatMap_cons, List.flatMap_nil, (bytesP_G _ _ _).2]
  rw [sixS_all (f := bytesP) ?_ ?_ (by rw [hb]; rfl), hb]
  · intro p hp
    simp only [pcs, List.cons_append, List.nil_append, List.mem_cons, List.not_mem_nil, or_false] at hp
    rcases hp with rfl | rfl | rfl | rfl | rfl | rfl | rfl | rfl <;> exact pieceG_good _ _ _
  · intro p hp
    simp only [pcs, List.cons_append, List.nil_append, List.mem_cons, List.not_mem_nil, or_false] at hp
    rcases hp with rfl | rfl | rfl | rfl | rfl | rfl | rfl | rfl <;> exact (bytesP_G _ _ _).1
theorem oct_dec {n : Nat} (h : n ≤ 255) : octB (baseD 10 n) = some n := by
  have hv : digV 0 (baseD 10 n) = n := by rw [baseD_10]; exact digV_decDigits n
  unfold octB
  rw [if_pos ⟨baseD_ne _ _, decs_all, by rw [hv]; exact h, base_canon h⟩, hv]
theorem fourP_dot (a b c d : UInt8) : fourP (dot4 a b c d) = some [a, b, c, d] := by
  have e : ∀ x : UInt8, UInt8.ofNat x.toNat = x := fun x => UInt8.toNat.inj (by rw [UInt8.toNat_ofNat']; have := x.toNat_lt; omega)
  have h : ∀ x : UInt8, octB (baseD 10 x.toNat) = some x.toNat := fun x => oct_dec (by have := x.toNat_lt; omega)
  unfold fourP
  rw [dot4_cut, if_pos (by rfl), octAcc, h]
  simp only [octAcc, h, e, List.nil_append, List.cons_append]
theorem pieceAcc_four' {f : List UInt8 → List UInt8} {q x : List UInt8} (hq : pieceP q = none) (h4 : fourP q = some x) : ∀ {ps : List (List UInt8)} {out : List UInt8}, (∀ p ∈ ps, pieceP p = some (f p)) → pieceAcc true out (ps ++ [q]) = some (out ++ ps.flatMap f ++ x)
  | [], out, _ => by rw [List.nil_append, pieceAcc, hq, h4]; simp
  | [p], out, h => by
    show pieceAcc true out (p :: q :: []) = _
    rw [pieceAcc, h p List.mem_cons_self]
    show pieceAcc true (out ++ f p) [q] = _
    rw [pieceAcc, hq, h4]; simp
  | p :: r :: ps, out, h => by
    show pieceAcc true out (p :: r :: (ps ++ [q])) = _
    rw [pieceAcc, h p List.mem_cons_self]
    show pieceAcc true (out ++ f p) ((r :: ps) ++ [q]) = _
    rw [pieceAcc_four' hq h4 (ps := r :: ps) (fun x hx => h x (List.mem_cons_of_mem _ hx)), List.flatMap_cons (x := p), List.append_assoc out]
theorem six_tail (g : Bool) (b0 b1 b2 b3 b4 b5 b6 b7 b8 b9 b10 b11 b12 b13 b14 b15 : UInt8) :
    sixS (Lib.join (pcs g b0 b1 b2 b3 b4 b5 b6 b7 b8 b9 b10 b11 ++ [dot4 b12 b13 b14 b15]) [58]) = (true, [b0, b1, b2, b3, b4, b5, b6, b7, b8, b9, b10, b11, b12, b13, b14, b15], 0) := by
  have hb : (pcs g b0 b1 b2 b3 b4 b5 b6 b7 b8 b9 b10 b11).flatMap bytesP = [b0, b1, b2, b3, b4, b5, b6, b7, b8, b9, b10, b11] := by
    simp only [pcs, List.cons_append, List.nil_append, List.flatMap_cons, List.flatMap_nil, (bytesP_G _ _ _).2]
  have hg : Good4 (pcs g b0 b1 b2 b3 b4 b5 b6 b7 b8 b9 b10 b11 ++ [dot4 b12 b13 b14 b15]) := by
    intro p hp
    simp only [pcs, List.cons_append, List.nil_append, List.mem_cons, List.not_mem_nil, or_false] at hp
    have hd : dot4 b12 b13 b14 b15 ≠ [] := by intro e; have := (dot4_free b12 b13 b14 b15).2; rw [e] at this; simp at this
    rcases hp with rfl | rfl | rfl | rfl | rfl | rfl | rfl
    all_goals first
      | exact pieceG_good _ _ _
      | exact ⟨hd, (dot4_free _ _ _ _).1⟩
  unfold sixS
  rw [show Lib.cut (Lib.join (pcs g b0 b1 b2 b3 b4 b5 b6 b7 b8 b9 b10 b11 ++ [dot4 b12 b13 b14 b15]) [58]) [58, 58] = (Lib.join (pcs g b0 b1 b2 b3 b4 b5 b6 b7 b8 b9 b10 b11 ++ [dot4 b12 b13 b14 b15]) [58], [], false) from by
    unfold Lib.cut; rw [index_two_none (twos_join hg), if_neg (by decide)]]
  show sixOf false (takeP true (Lib.join _ [58])) (takeP true []) = _
  rw [takeP_join hg, pieceAcc_four' (f := bytesP) (piece_dot4 b12 b13 b14 b15) (fourP_dot b12 b13 b14 b15), hb]
  · rfl
  · intro p hp
    simp only [pcs, List.mem_cons, List.not_mem_nil, or_false] at hp
    rcases hp with rfl | rfl | rfl | rfl | rfl | rfl <;> exact (bytesP_G _ _ _).1
-- forms of a part
theorem baseD_headB {b : Nat} (hb : 2 ≤ b) (hb2 : b ≤ 16) {n : Nat} (h : 0 < n) : ∃ c p, baseD b n = c :: p ∧ c ≠ 48 := by
  induction n using Nat.strongRecOn with
  | _ n ih =>
    by_cases h16 : n < b
    · refine ⟨hx n, [], by rw [baseD, dif_pos (.inl h16)], fun e => ?_⟩
      have := (hx_facts n (by omega)).2.2.2 e
      omega
    · have hd : 0 < n / b := Nat.div_pos (by omega) (by omega)
      obtain ⟨c, p, hp, hc⟩ := ih (n / b) (Nat.div_lt_self (by omega) (by omega)) hd
      exact ⟨c, p ++ [hx (n % b)], by rw [baseD, dif_neg (by omega), hp]; rfl, hc⟩
/-- A part, told in a form. -/
def formP (f n : Nat) : List UInt8 :=
  if f = 0 then baseD 10 n else if f = 1 then 48 :: 120 :: baseD 16 n else if f = 2 then 48 :: baseD 8 n else if f = 3 then 48 :: 88 :: 48 :: 48 :: 48 :: baseD 16 n else 48 :: 48 :: 48 :: baseD 8 n
theorem valB_zero (b : Nat) (l : List UInt8) : valB b 0 (48 :: l) = valB b 0 l := by
  rw [valB_cons, hexI_nought]; simp
theorem ok48 {b : Nat} (hb : 1 ≤ b) : okB b 48 = true := by unfold okB; rw [hexI_nought]; simp; omega
theorem cnt_zero {b : Nat} (hb : 1 ≤ b) {l : List UInt8} {n : Nat} (h : cntB b l = some n) : cntB b (48 :: l) = some n := by
  unfold cntB at h ⊢
  rw [List.all_cons, ok48 hb, Bool.true_and, valB_zero]
  exact h
theorem oct_dig : ∀ d < 8, digB (hx d) = true ∧ hx d ≠ 120 ∧ hx d ≠ 88 := by decide +kernel
theorem octs_all {n : Nat} : ∀ c ∈ baseD 8 n, digB c = true := fun c hc => by
  obtain ⟨d, hd, rfl⟩ := baseD_all (by omega) (by omega) n c hc
  exact (oct_dig d hd).1
theorem hexed_oct (n : Nat) : hexedB (48 :: baseD 8 n) = false := by
  match hl : baseD 8 n with
  | [] => rfl
  | d :: r =>
    obtain ⟨k, hk, e⟩ := baseD_all (b := 8) (by omega) (by omega) n d (by rw [hl]; exact List.mem_cons_self)
    have h := oct_dig k hk
    rw [← e] at h
    show ((48 : UInt8) == 48 && (d == 120 || d == 88)) = false
    rw [beq_eq_false_iff_ne.2 h.2.1, beq_eq_false_iff_ne.2 h.2.2]; rfl
theorem form_num (f n : Nat) (hn : n ≤ 4294967295) : numP4 (formP f n) = some n := by
  unfold formP
  split
  · by_cases h0 : n = 0
    · subst h0
      rw [show baseD 10 0 = [48] from by rw [baseD, dif_pos (.inl (by omega))]; rfl]
      decide
    · obtain ⟨c, p, hp, hc⟩ := baseD_headB (b := 10) (by omega) (by omega) (n := n) (by omega)
      unfold numP4
      rw [if_neg (by rw [baseD_h0]; decide), if_neg (baseD_ne _ _), if_neg (by rw [hp]; intro e; injection e with e; exact hc e), baseD_cnt (by omega) (by omega) n (by omega)]
  · split
    · unfold numP4
      rw [if_pos (by rfl)]
      show cntB 16 (baseD 16 n) = _
      exact baseD_cnt (by omega) (by omega) n (by omega)
    · split
      · unfold numP4
        rw [if_neg (by rw [hexed_oct]; decide), if_neg (by simp), if_pos (by rfl)]
        exact cnt_zero (by omega) (baseD_cnt (by omega) (by omega) n (by omega))
      · split
        · unfold numP4
          rw [if_pos (by rfl)]
          show cntB 16 (48 :: 48 :: 48 :: baseD 16 n) = _
          exact cnt_zero (by omega) (cnt_zero (by omega) (cnt_zero (by omega) (baseD_cnt (by omega) (by omega) n (by omega))))
        · unfold numP4
          rw [if_neg (by show ¬ ((48 : UInt8) == 48 && ((48 : UInt8) == 120 || (48 : UInt8) == 88)) = true; decide), if_neg (by simp), if_pos (by rfl)]
          exact cnt_zero (by omega) (cnt_zero (by omega) (cnt_zero (by omega) (baseD_cnt (by omega) (by omega) n (by omega))))
theorem form_ne (f n : Nat) : formP f n ≠ [] := by
  unfold formP
  split
  · exact baseD_ne _ _
  · split
    · simp
    · split
      · simp
      · split <;> simp
theorem form_free (f n : Nat) : (46 : UInt8) ∉ formP f n := by
  have h10 := (baseD_free (b := 10) (by omega) (by omega) n).2
  have h8 := (baseD_free (b := 8) (by omega) (by omega) n).2
  have h16 := (baseD_free (b := 16) (by omega) (by omega) n).2
  unfold formP
  split
  · exact h10
  · split
    · simp [h16]
    · split
      · simp [h8]
      · split
        · simp [h16]
        · simp [h8]
theorem form_like (f n : Nat) (hn : n ≤ 4294967295) : likeB (formP f n) = true := by
  unfold likeB
  by_cases hx : hexedB (formP f n) = true
  · rw [if_pos hx, form_num f n hn]; rfl
  · rw [if_neg hx]
    have hd : ∀ c ∈ formP f n, digB c = true := by
      unfold formP at hx ⊢
      split
      · exact decs_all
      · rename_i h0
        rw [if_neg h0] at hx
        split
        · rename_i h1
          rw [if_pos h1] at hx
          exact absurd rfl hx
        · rename_i h1
          rw [if_neg h1] at hx
          split
          · intro c hc
            rcases List.mem_cons.1 hc with rfl | hc
            · decide
            · exact octs_all c hc
          · rename_i h2
            rw [if_neg h2] at hx
            split
            · rename_i h3
              rw [if_pos h3] at hx
              exact absurd rfl hx
            · intro c hc
              simp only [List.mem_cons] at hc
              rcases hc with rfl | rfl | rfl | hc
              · decide
              · decide
              · decide
              · exact octs_all c hc
    simp only [Bool.and_eq_true, decide_eq_true_eq, List.all_eq_true]
    exact ⟨form_ne f n, hd⟩
/-- The number of part i of k. -/
def xOf (n k i : Nat) : Nat := if i + 1 = k then n % 2 ^ (32 - 8 * i) else n / 2 ^ (24 - 8 * i) % 256
/-- The parts of an address of four bytes. -/
def formL (n : Nat) (f : Nat → Nat) (k : Nat) : List (List UInt8) := (List.range k).map fun i => formP (f i) (xOf n k i)
theorem formL_len (n : Nat) (f : Nat → Nat) (k : Nat) : (formL n f k).length = k := by unfold formL; simp
theorem xOf_le (n k i : Nat) : xOf n k i ≤ 4294967295 := by
  unfold xOf
  split
  · have h : n % 2 ^ (32 - 8 * i) < 2 ^ (32 - 8 * i) := Nat.mod_lt _ (Nat.pow_pos (by omega))
    have h2 : (2 : Nat) ^ (32 - 8 * i) ≤ 2 ^ 32 := Nat.pow_le_pow_right (by omega) (by omega)
    have h3 : (2 : Nat) ^ 32 = 4294967296 := rfl
    omega
  · omega
theorem addrV_forms (n : Nat) (hn : n < 4294967296) (f : Nat → Nat) (k : Nat) (h1 : 1 ≤ k) (h4 : k ≤ 4) : addrV 4 0 (formL n f k) = some n := by
  have hnum : ∀ i, numP4 (formP (f i) (xOf n k i)) = some (xOf n k i) := fun i => form_num _ _ (xOf_le _ _ _)
  obtain rfl | rfl | rfl | rfl : k = 1 ∨ k = 2 ∨ k = 3 ∨ k = 4 := by omega
  · show addrV 4 0 [formP (f 0) (xOf n 1 0)] = _
    have e0 : xOf n 1 0 = n := by show n % 4294967296 = n; omega
    rw [addrV_last (hnum 0), e0, if_pos (by show n < 4294967296; exact hn)]
    show some (0 * 4294967296 + n) = _
    rw [Nat.zero_mul, Nat.zero_add]
  · show addrV 4 0 [formP (f 0) (xOf n 2 0), formP (f 1) (xOf n 2 1)] = _
    have e0 : xOf n 2 0 = n / 16777216 := by show n / 16777216 % 256 = _; omega
    have e1 : xOf n 2 1 = n % 16777216 := rfl
    rw [addrV_more (hnum 0), e0, if_pos (by omega), addrV_last (hnum 1), e1, if_pos (by show n % 16777216 < 16777216; omega)]
    show some ((0 * 256 + n / 16777216) * 16777216 + n % 16777216) = _
    congr 1; omega
  · show addrV 4 0 [formP (f 0) (xOf n 3 0), formP (f 1) (xOf n 3 1), formP (f 2) (xOf n 3 2)] = _
    have e0 : xOf n 3 0 = n / 16777216 := by show n / 16777216 % 256 = _; omega
    have e1 : xOf n 3 1 = n / 65536 % 256 := rfl
    have e2 : xOf n 3 2 = n % 65536 := rfl
    rw [addrV_more (hnum 0), e0, if_pos (by omega), addrV_more (hnum 1), e1, if_pos (by omega), addrV_last (hnum 2), e2, if_pos (by show n % 65536 < 65536; omega)]
    show some (((0 * 256 + n / 16777216) * 256 + n / 65536 % 256) * 65536 + n % 65536) = _
    congr 1; omega
  · show addrV 4 0 [formP (f 0) (xOf n 4 0), formP (f 1) (xOf n 4 1), formP (f 2) (xOf n 4 2), formP (f 3) (xOf n 4 3)] = _
    have e0 : xOf n 4 0 = n / 16777216 := by show n / 16777216 % 256 = _; omega
    have e1 : xOf n 4 1 = n / 65536 % 256 := rfl
    have e2 : xOf n 4 2 = n / 256 % 256 := rfl
    have e3 : xOf n 4 3 = n % 256 := rfl
    rw [addrV_more (hnum 0), e0, if_pos (by omega), addrV_more (hnum 1), e1, if_pos (by omega), addrV_more (hnum 2), e2, if_pos (by omega), addrV_last (hnum 3), e3, if_pos (by show n % 256 < 256; omega)]
    show some ((((0 * 256 + n / 16777216) * 256 + n / 65536 % 256) * 256 + n / 256 % 256) * 256 + n % 256) = _
    congr 1; omega
def formText (n : Nat) (f : Nat → Nat) (k : Nat) (point : Bool) : List UInt8 := Lib.join (formL n f k) [46] ++ if point = true then [46] else []
theorem formL_mem {n : Nat} {f : Nat → Nat} {k : Nat} {p : List UInt8} (h : p ∈ formL n f k) : p ≠ [] ∧ (46 : UInt8) ∉ p := by
  unfold formL at h
  obtain ⟨i, _, rfl⟩ := List.mem_map.1 h
  exact ⟨form_ne _ _, form_free _ _⟩
/-- However its parts are told: the same address. -/
theorem four_forms (n : Nat) (hn : n < 4294967296) (f : Nat → Nat) (k : Nat) (h1 : 1 ≤ k) (h4 : k ≤ 4) (point : Bool) : fourS (formText n f k point) = (fourBytes n ++ noughts 12, true, 0) := by
  have hne : formL n f k ≠ [] := by intro e; have := formL_len n f k; rw [e] at this; simp at this; omega
  have hlast : (formL n f k).getLast? ≠ some [] := fun e => (formL_mem (List.mem_of_getLast? e)).1 rfl
  have hp : partsFour (formText n f k point) = formL n f k := by
    unfold partsFour formText
    cases point with
    | false =>
      rw [show (if false = true then [46] else ([] : List UInt8)) = [] from rfl, List.append_nil, cutAt_join (fun p hp => (formL_mem hp).2) hne, if_neg (fun e => hlast e.2)]
    | true =>
      rw [show (if true = true then [46] else ([] : List UInt8)) = [46] from rfl, cutAt_append, cutAt_join (fun p hp => (formL_mem hp).2) hne, show cutAt 46 [] = [[]] from rfl, if_pos, List.dropLast_concat]
      refine ⟨?_, by simp⟩
      rw [List.length_append, formL_len]; simp; omega
  unfold fourS
  rw [hp, formL_len]
  have hl : ∃ i, (formL n f k).getLast? = some (formP (f i) (xOf n k i)) := by
    cases hg : (formL n f k).getLast? with
    | none => exact absurd (List.getLast?_eq_none_iff.1 hg) hne
    | some p =>
      have hm := List.mem_of_getLast? hg
      unfold formL at hm
      obtain ⟨i, _, rfl⟩ := List.mem_map.1 hm
      exact ⟨i, rfl⟩
  obtain ⟨i, hi⟩ := hl
  rw [hi, Option.getD_some, if_pos (form_like _ _ (xOf_le _ _ _)), if_neg (by omega), addrV_forms n hn f k h1 h4]
end Go.Proofs.YtiookngmgednjaaDoor
