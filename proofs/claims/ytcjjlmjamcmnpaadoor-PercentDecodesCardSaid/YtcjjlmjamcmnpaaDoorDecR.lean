/- Walk: the reference's Hex and Decode. -/
import Derived.Test.YtcjjlmjamcmnpaaDoorApp
import Derived.Test.YtcjjlmjamcmnpaaDoorSpec03b
import Derived.IntWalk
namespace Go.Proofs.YtcjjlmjamcmnpaaDoor
open Go.RowKit Go.Lib Go.Proofs.Foot

theorem hexR_any (c : UInt8) (w : World) : Calls Tryd.prog 20 #[.int .u8 c.toNat] w fun e w' => e = .returned (.int .i64 (hexI c)) ∧ w = w' := by
  have h256 := c.toNat_lt
  by_cases h1 : 48 ≤ c.toNat ∧ c.toNat ≤ 57
  · have H := hid (show hexI c = (c.toNat : Int) - 48 from if_pos h1)
    obtain ⟨a, b⟩ := h1
    go_enter Tryd.func20, Tryd.ntmps20
    go_wp2
    go_ret
    exact ⟨ret_int H.out.symm, rfl⟩
  · by_cases h2 : 97 ≤ c.toNat ∧ c.toNat ≤ 102
    · have H := hid (show hexI c = (c.toNat : Int) - 87 from by unfold hexI; rw [if_neg h1, if_pos h2])
      obtain ⟨a, b⟩ := h2
      clear h1
      go_enter Tryd.func20, Tryd.ntmps20
      go_wp2
      go_ret
      exact ⟨ret_int (by rw [H.out]; omega), rfl⟩
    · by_cases h3 : 65 ≤ c.toNat ∧ c.toNat ≤ 70
      · have H := hid (show hexI c = (c.toNat : Int) - 55 from by unfold hexI; rw [if_neg h1, if_neg h2, if_pos h3])
        obtain ⟨a, b⟩ := h3
        clear h1 h2
        go_enter Tryd.func20, Tryd.ntmps20
        go_wp2
        go_ret
        exact ⟨ret_int (by rw [H.out]; omega), rfl⟩
      · have H := hid (show hexI c = -1 from by unfold hexI; rw [if_neg h1, if_neg h2, if_neg h3])
        go_enter Tryd.func20, Tryd.ntmps20
        go_wp2
        all_goals go_ret
        all_goals first
          | exact ⟨ret_int H.out.symm, rfl⟩
          | (exfalso; omega)

theorem app1z {w : World} {ops : Array Oper} {rest : List Oper} {o : Oper} {a : Act} {Q : Exit → Act → World → Prop} (hgd : o.guard = none) (s x : Operand)
    (ho : o.op = .call { callee := .builtin .append, args := #[s, x], argTypes := #[32, 32] }) (hty : o.type = 32) (base : Nat) (l : List UInt8) (b : UInt8) (z : Int) (hz : z = (b.toNat : Int)) (v : Value) (hs : a.eval s = v)
    (hown : w.ownsRow base 5 1 v l.length (byteCells l)) (hx : a.eval x = .slice (some ⟨w.heap.size, 0, none⟩) 1 1) (hlen : l.length + 1 ≤ 140737488355328) (hbase : base ≤ w.heap.size)
    (h : ∀ v' w', Appd base l [b] v w v' w' → wpList Tryd.prog ops Q rest (a.put o.dst v') w') : wpList Tryd.prog ops Q (o :: rest) a (w.alloc (.cells #[.int .u8 z] 5)) := by
  subst hz
  exact app1 hgd s x ho hty base l b v hs hown hx hlen hbase h
theorem dec_put1 {acc b L : List UInt8} {c d : UInt8} {r : List UInt8} (h : dec (c :: b) = d :: dec r) (hL : acc ++ dec (c :: b) = L) : (acc ++ [d]) ++ dec r = L := by rw [← hL, h]; simp

set_option maxHeartbeats 2000000 in
set_option maxRecDepth 100000 in
theorem decodeR_any (s : ByteArray) (w : World) (hs : s.size ≤ 16777216) :
    Calls Tryd.prog 11 #[.string s] w fun e w' => e = .returned (.string ⟨(dec s.data.toList).toArray⟩) ∧ Below w.heap.size w w' := by
  go_enter Tryd.func11, Tryd.ntmps11
  go_wp2
  go_loopw [4, 3] (fun i v wr => ∃ (k : Nat) (acc : List UInt8), k ≤ s.size ∧ i = .int .i64 k ∧ Hid (wr.ownsRow w.heap.size 5 1 v acc.length (byteCells acc) ∧ acc ++ dec (s.data.toList.drop k) = dec s.data.toList ∧ Below w.heap.size w wr)) (fun i _ _ => s.size - (intOf i).toNat)
  case atStart => exact ⟨0, [], Nat.zero_le _, rfl, World.ownsRow_nil _ _ _ _, rfl, Below.refl _ _⟩
  case round =>
    obtain ⟨k, acc, hk, rfl, hh⟩ := hrel
    obtain ⟨hown, hacc, hbel⟩ := hh.out
    clear hh
    obtain ⟨ao, cap, rfl⟩ := slice_of_row hown
    have hsl : s.data.toList.length = s.size := (Lib.size_eq s).symm
    have hdl := dec_length s.data.toList
    have hal : acc.length + (dec (s.data.toList.drop k)).length = (dec s.data.toList).length := by rw [← hacc, List.length_append]
    have hac : acc.length ≤ 16777216 := by omega
    clear hdl hal
    by_cases hlt : k < s.size
    · have hl : k < s.data.toList.length := by omega
      obtain ⟨c, hc0⟩ : ∃ c, s[k]'hlt = c := ⟨_, rfl⟩
      have hd : s.data.toList.drop k = c :: s.data.toList.drop (k + 1) := by rw [← hc0]; exact List.drop_eq_getElem_cons hl
      rw [hd] at hacc
      have Hown := hid hown
      have Hbel := hid hbel
      have Hacc := hid hacc
      have Hsl := hid hsl
      clear hd hown hbel hacc hsl hl
      by_cases hc : c.toNat = 37
      · have e37 : ((c.toNat : Int) == 37) = true := by rw [hc]; rfl
        obtain rfl : c = 37 := UInt8.toNat.inj hc
        clear hc
        by_cases h2 : k + 2 < s.size
        · have hl1 : k + 1 < s.size := by omega
          obtain ⟨x, hx⟩ : ∃ x, s[k + 1]'hl1 = x := ⟨_, rfl⟩
          obtain ⟨y, hy⟩ : ∃ y, s[k + 2]'h2 = y := ⟨_, rfl⟩
          have hr : s.data.toList.drop (k + 1) = x :: y :: s.data.toList.drop (k + 3) := by
            rw [List.drop_eq_getElem_cons (by rw [Hsl.out]; omega), List.drop_eq_getElem_cons (by rw [Hsl.out]; omega), ← hx, ← hy]; rfl
          have Hr := hid hr
          clear hr
          cases hp : pairB x y with
          | true =>
            have Hst : Hid (dec (37 :: s.data.toList.drop (k + 1)) = pairV x y :: dec (s.data.toList.drop (k + 3))) := by rw [Hr.out]; exact hid (dec_yes hp)
            have hxb := hexI_bd x
            have hyb := hexI_bd y
            have hxy : 0 ≤ hexI x ∧ 0 ≤ hexI y := by simpa [pairB] using hp
            have hV : 16 * hexI x + hexI y = ((pairV x y).toNat : Int) := by
              unfold pairV; rw [UInt8.toNat_ofNat']; omega
            obtain ⟨hx0, hy0⟩ := hxy
            clear hp
            obtain ⟨v', w5, hr0, happ⟩ := app_run w.heap.size acc [pairV x y] (.slice ao acc.length cap) wr 1 1 1 rfl #[.int .u8 (pairV x y).toNat] rfl Hown.out (by show _ + 1 ≤ _; omega) Hbel.out.size
            rw [← hV] at hr0
            have Hr0 : Hid ((Builtin.append_ #[32, 32] 32 #[.slice ao acc.length cap, .slice (some ⟨wr.heap.size, 0, none⟩) 1 1]).run Tryd.prog (wr.alloc (.cells #[.int .u8 (16 * hexI x + hexI y)] 5)).drew = .ok v' w5) := hid hr0
            have Happ := hid happ
            have e1 : IntKind.i64.wrap ((k : Int) + 1) = (k : Int) + 1 := IntWalk.i64_in _ (by omega)
            have e2 : IntKind.i64.wrap ((k : Int) + 2) = (k : Int) + 2 := IntWalk.i64_in _ (by omega)
            have e3 : IntKind.i64.wrap (16 * hexI x) = 16 * hexI x := IntWalk.i64_in _ (by omega)
            have e4 : IntKind.i64.wrap (16 * hexI x + hexI y) = 16 * hexI x + hexI y := IntWalk.i64_in _ (by omega)
            have e5 : IntKind.u8.wrap (16 * hexI x + hexI y) = 16 * hexI x + hexI y := IntWalk.u8_in _ (by omega)
            have t1 : ((k : Int) + 1).toNat = k + 1 := by omega
            have t2 : ((k : Int) + 2).toNat = k + 2 := by omega
            have b1 : 0 ≤ (k : Int) + 1 ∧ (k : Int) + 1 < s.size := by omega
            have b2 : 0 ≤ (k : Int) + 2 ∧ (k : Int) + 2 < s.size := by omega
            have E := hid (And.intro e1 (And.intro e2 (And.intro e3 (And.intro e4 (And.intro e5 (And.intro t1 t2))))))
            clear hr0 happ hV e1 e2 e3 e4 e5 t1 t2
            go_wp2_with (go_at_call 20; refine (hexR_any _ _).mono ?_; rintro e w1 ⟨rfl, rfl⟩)
            obtain ⟨e1, e2, e3, e4, e5, t1, t2⟩ := E.out
            go_region_law (first
              | (refine step_app rfl _ _ 32 rfl _ _ _ _ rfl rfl Hr0.out ?_)
              | (go_simp; go_at_call 20; refine (hexR_any _ _).mono ?_; rintro e w1 ⟨rfl, rfl⟩))
            all_goals clear e1 e2 e3 e4 e5 t1 t2
            all_goals go_wp2
            all_goals go_roundw
            all_goals first
              | exact ⟨k + 3, _, by omega, by go_num, Happ.out.1, dec_put1 Hst.out Hacc.out, Hbel.out.trans (Happ.out.2.1.below (fun j hj => (Hown.out.lt j hj).1) Hbel.out.size)⟩
              | (simp [intOf]; omega)
          | false =>
            have Hst : Hid (dec (37 :: s.data.toList.drop (k + 1)) = 37 :: dec (s.data.toList.drop (k + 1))) := by rw [Hr.out]; exact hid (dec_no 37 hp)
            by_cases hx0 : 0 ≤ hexI x
            · have hy0 : ¬ 0 ≤ hexI y := fun h => by simp [pairB, hx0, h] at hp
              have hyf : decide (0 ≤ hexI y) = false := decide_eq_false hy0
              clear hp
              go_wp2_with (first
                | (go_at_call 20; refine (hexR_any _ _).mono ?_; rintro e w1 ⟨rfl, rfl⟩)
                | (at_builtin; refine app1z rfl _ _ rfl rfl w.heap.size acc 37 37 rfl (.slice ao acc.length cap) rfl Hown.out rfl (by omega) Hbel.out.size ?_; intro v' w5 happ))
              go_roundw
              case rel => exact ⟨k + 1, _, by omega, by go_num, happ.1, dec_put1 Hst.out Hacc.out, Hbel.out.trans (happ.2.1.below (fun j hj => (Hown.out.lt j hj).1) Hbel.out.size)⟩
              case measure => simp [intOf]; omega
            · clear hp
              go_wp2_with (first
                | (go_at_call 20; refine (hexR_any _ _).mono ?_; rintro e w1 ⟨rfl, rfl⟩)
                | (at_builtin; refine app1z rfl _ _ rfl rfl w.heap.size acc 37 37 rfl (.slice ao acc.length cap) rfl Hown.out rfl (by omega) Hbel.out.size ?_; intro v' w5 happ))
              go_roundw
              case rel => exact ⟨k + 1, _, by omega, by go_num, happ.1, dec_put1 Hst.out Hacc.out, Hbel.out.trans (happ.2.1.below (fun j hj => (Hown.out.lt j hj).1) Hbel.out.size)⟩
              case measure => simp [intOf]; omega
        · have Hst : Hid (dec (37 :: s.data.toList.drop (k + 1)) = 37 :: dec (s.data.toList.drop (k + 1))) := hid (dec_short 37 (by rw [List.length_drop, Hsl.out]; omega))
          go_wp2_with (first
            | (go_at_call 20; refine (hexR_any _ _).mono ?_; rintro e w1 ⟨rfl, rfl⟩)
            | (at_builtin; refine app1z rfl _ _ rfl rfl w.heap.size acc 37 37 rfl (.slice ao acc.length cap) rfl Hown.out rfl (by omega) Hbel.out.size ?_; intro v' w5 happ))
          go_roundw
          case rel => exact ⟨k + 1, _, by omega, by go_num, happ.1, dec_put1 Hst.out Hacc.out, Hbel.out.trans (happ.2.1.below (fun j hj => (Hown.out.lt j hj).1) Hbel.out.size)⟩
          case measure => simp [intOf]; omega
      · have Hst : Hid (dec (c :: s.data.toList.drop (k + 1)) = c :: dec (s.data.toList.drop (k + 1))) := hid (dec_ne (fun e => hc (by rw [e]; rfl)) _)
        have e37 : ((c.toNat : Int) == 37) = false := by rw [beq_eq_false_iff_ne]; omega
        clear hc
        go_wp2_with (first
          | (go_at_call 20; refine (hexR_any _ _).mono ?_; rintro e w1 ⟨rfl, rfl⟩)
          | (at_builtin; refine app1 rfl _ _ rfl rfl w.heap.size acc c (.slice ao acc.length cap) rfl Hown.out rfl (by omega) Hbel.out.size ?_; intro v' w5 happ))
        go_roundw
        case rel => exact ⟨k + 1, _, by omega, by go_num, happ.1, dec_put1 Hst.out Hacc.out, Hbel.out.trans (happ.2.1.below (fun j hj => (Hown.out.lt j hj).1) Hbel.out.size)⟩
        case measure => simp [intOf]; omega
    · have e : s.data.toList.drop k = [] := List.drop_eq_nil_of_le (by omega)
      have ha : acc = dec s.data.toList := by rw [← hacc, e]; simp [dec]
      have ho2 : wr.ownsRow w.heap.size 5 1 (.slice ao acc.length cap) (dec s.data.toList).length (byteCells (dec s.data.toList)) := by
        rw [← ha]; exact hown
      have Hbel := hid hbel
      have Hac := hid hac
      clear e hown hacc hsl ha hac
      go_wp2_with (refine own_string rfl _ rfl w.heap.size _ _ rfl ho2 ?_)
      go_ret
      exact ⟨rfl, Hbel.out⟩
end Go.Proofs.YtcjjlmjamcmnpaaDoor
