/- Contracts of l01Pick and DrawSplitFields: a text of at most 2000 bytes. -/
import Derived.Test.YthonlkconobdfaaDoorDrawT
import Derived.Test.YthonlkconobdfaaDoorNum
namespace Go.Proofs.YthonlkconobdfaaDoor
open Go.RowKit

theorem Cur.stay {w w' : World} {c : Nat} (h : Cur w c) (hb : Below w.heap.size w w') : Cur w' c := by
  have hlt := h.lt
  obtain ⟨a, len, cap, zs, i, q, hh, hr, hne, hil⟩ := h
  exact ⟨a, len, cap, zs, i, q, by rw [hb.block c hlt]; exact hh, hr.below hb, hne, hil⟩
theorem OS.keptCur {w w' : World} {base c : Nat} {v : Value} {xs : List ByteArray} (h : OS w base v xs) (hg : w.grownBy w' (some c)) (hb : c < base) : OS w' base v xs := by
  refine World.ownsRow.kept h hg ?_
  cases e : v.ownBlock with
  | none => exact .inl rfl
  | some g => refine .inr fun e2 => ?_; have := (h.lt g e).1; have := Option.some.inj e2; omega
theorem OS.lit6 (w : World) (a b c d e f : ByteArray) : OS (w.alloc (.cells #[.string a, .string b, .string c, .string d, .string e, .string f] 9)) w.heap.size (.slice (some ⟨w.heap.size, 0, none⟩) 6 6) [a, b, c, d, e, f] := by
  have h := World.ownsRow_lit (e := 9) (size := 1) w #[.string a, .string b, .string c, .string d, .string e, .string f] 6 (Nat.le_refl _) (by decide) rfl
  simpa [OS] using h
def RetPick (W : World) (c : Nat) (e : Ending) (w' : World) : Prop := ∃ s : ByteArray, e = .returned (.string s) ∧ s.size ≤ 2 ∧ Cur w' c ∧ W.grownBy w' (some c)
theorem pickS {w : World} {c base : Nat} {v : Value} {ls : List ByteArray} (hc : Cur w c) (hv : OS w base v ls) (hb : c < base) (hn : 1 ≤ ls.length) (hm : ls.length ≤ 1000) (hx : ∀ s ∈ ls, s.size ≤ 2) :
    Calls Tryd.prog 35 #[.pointer (some ⟨c, 0, none⟩), v] w (RetPick w c) := by
  obtain ⟨i0, hi, hz0, hz1, hz2⟩ := info_parts info_str
  obtain ⟨ad, cap, rfl, hmx⟩ := hv.shape
  obtain ⟨n, hn2⟩ : ∃ n, n = ls.length := ⟨_, rfl⟩
  rw [← hn2] at hn hm
  have HN := Lib.hid hn2
  clear hn2 hmx
  go_enter Tryd.func35, Tryd.ntmps35
  rw [← HN.out]
  go_wp2_with fail
  refine (belowDraw hc (by omega) (by omega)).mono ?_
  rintro e w1 ⟨x, hx0, hx1, rfl, hc1, hg1⟩
  obtain ⟨k, rfl⟩ : ∃ k : Nat, x = (k : Int) := ⟨x.toNat, by omega⟩
  have hk : k < n := by omega
  have hkl : k < ls.length := by rw [← HN.out]; exact hk
  obtain ⟨ad', cap', g, hq, _, _, _, hcell⟩ := (hv.keptCur hg1 hb).view
  simp only [Value.slice.injEq] at hq
  obtain ⟨rfl, _, rfl⟩ := hq
  obtain ⟨had, _, _, cy, _⟩ := hcell k hkl
  have iy := indexAt_some Tryd.underlying35 hi hz1 had hkl .i64 (cap := cap)
  rw [← HN.out] at iy
  have hmem := hx (strAt ls k) (by rw [strAt, List.getD, List.getElem?_eq_getElem hkl]; exact List.getElem_mem _)
  obtain ⟨y, ey⟩ : ∃ y, y = strAt ls k := ⟨_, rfl⟩
  rw [← ey] at cy hmem
  replace had := Lib.hid had
  clear hcell ey
  go_wp2
  go_ret
  exact ⟨_, rfl, hmem, hc1, hg1⟩
theorem lit6_size : ∀ s ∈ [(⟨#[32]⟩ : ByteArray), ⟨#[32, 32]⟩, ⟨#[9]⟩, ⟨#[10]⟩, ⟨#[127]⟩, ⟨#[233]⟩], s.size ≤ 2 := by
  intro s hs
  simp only [List.mem_cons, List.not_mem_nil, or_false] at hs
  rcases hs with rfl | rfl | rfl | rfl | rfl | rfl <;> decide

set_option maxRecDepth 100000 in
set_option maxHeartbeats 4000000 in
theorem drawSplit {w : World} {a : Option Addr} {len cap : Nat} {zs : List Int} (hr : IsRow .u8 w a len cap zs) : Calls Tryd.prog 18 #[.slice a len cap] w (RetTx w 2000) := by
  go_enter Tryd.func18, Tryd.ntmps18
  go_wp2_with fail
  refine (newDraw hr).mono ?_
  rintro e w1 ⟨c, rfl, hc1, hcw, b1⟩
  go_wp2_with fail
  refine (belowDraw hc1 (by omega) (by omega)).mono ?_
  rintro e w2 ⟨x, hx0, hx1, rfl, hc2, hg2⟩
  have b2 := grown_below b1 hg2 hcw
  go_wp2_with fail
  refine (onceDraw hc2 (by omega) (by omega)).mono ?_
  rintro e w3 ⟨q, rfl, hc3, hg3⟩
  have b3 := grown_below b2 hg3 hcw
  cases q
  · obtain ⟨n, rfl⟩ : ∃ n : Nat, x = (n : Int) := ⟨x.toNat, by omega⟩
    have hnb : n ≤ 25 := by omega
    clear hc1 hc2 hg2 hg3 b1 b2
    go_wp2
    go_loopw [5, 6, 7] (fun s i _ wr => ∃ (t : ByteArray) (j : Nat), s = .string t ∧ i = .int .i64 (j : Int) ∧ j ≤ n ∧ t.size ≤ 8 * j ∧ Cur wr c ∧ Below w.heap.size w wr) (fun _ i _ _ => n - (intOf i).toNat)
    case atStart => exact ⟨⟨#[]⟩, 0, rfl, rfl, Nat.zero_le _, Nat.zero_le _, hc3, b3⟩
    case round =>
      obtain ⟨wo, rfl⟩ : ∃ wo, wo = wr := ⟨_, rfl⟩
      obtain ⟨t, j, rfl, rfl, hj, hts, hc, hb⟩ := hrel
      by_cases hlt : j < n
      · by_cases h0 : j = 0
        · subst h0
          go_wp2_with fail
          refine (onceDraw hc (by omega) (by omega)).mono ?_
          rintro e wa ⟨q, rfl, hca, hga⟩
          have ba := grown_below hb hga hcw
          cases q
          · go_wp2
            go_loopw [5, 7] (fun s k wr => ∃ (u : ByteArray) (i : Nat), s = .string u ∧ k = .int .i64 (i : Int) ∧ i ≤ 5 ∧ u.size ≤ 8 * 0 + 3 + i ∧ Cur wr c ∧ Below w.heap.size w wr) (fun _ k _ => 6 - (intOf k).toNat)
            case atStart => exact ⟨t, 0, rfl, rfl, by omega, by omega, hca, ba⟩
            case round =>
              obtain ⟨wi, rfl⟩ : ∃ wi, wi = wr := ⟨_, rfl⟩
              obtain ⟨u, i, rfl, rfl, hi, hus, hci, hbi⟩ := hrel
              go_wp2_with fail
              refine (belowDraw hci (by omega) (by omega)).mono ?_
              rintro e wp ⟨p, hp0, hp1, rfl, hcp, hgp⟩
              have bp := grown_below hbi hgp hcw
              by_cases hle : (i : Int) ≤ p
              · have hd : decide ((i : Int) ≤ p) = true := decide_eq_true hle
                go_wp2_with fail
                refine (belowDraw hcp (by omega) (by omega)).mono ?_
                rintro e wq ⟨r, hr0, hr1, rfl, hcq, hgq⟩
                have bq := grown_below bp hgq hcw
                have e1 : IntKind.u8.wrap (33 + r) = 33 + r := by rw [IntKind.wrap_u8]; omega
                have hcv := own_string (OB.lit wq (33 + r)) _ rfl
                have hs1 := bstr_size [33 + r]
                obtain ⟨b, hbe⟩ : ∃ b, b = bstr [33 + r] := ⟨_, rfl⟩
                rw [← hbe] at hcv hs1
                have hs3 : b.size = 1 := hs1
                clear hbe hs1
                have hcat2 : u.size + b.size ≤ 9223372036854775807 := by omega
                go_wp2
                go_roundw
                case rel => exact ⟨u ++ b, i + 1, rfl, by go_num, by omega, by rw [ByteArray.size_append]; omega, hcq.alloc _, bq.alloc bq.size _⟩
                case measure => simp only [intOf]; omega
              · have hd : decide ((i : Int) ≤ p) = false := decide_eq_false hle
                go_wp2
                go_roundw
                case rel => exact ⟨u, 0 + 1, rfl, by go_num, by omega, by omega, hcp, bp⟩
                case measure => simp only [intOf]; omega
          · go_wp2_with fail
            refine (belowDraw hca (by omega) (by omega)).mono ?_
            rintro e wb ⟨x, hx0, hx1, rfl, hcb, hgb⟩
            have bb := grown_below ba hgb hcw
            go_wp2_with fail
            refine (belowDraw hcb (by omega) (by omega)).mono ?_
            rintro e wc ⟨y, hy0, hy1, rfl, hcc, hgc⟩
            have bc := grown_below bb hgc hcw
            obtain ⟨z, hz⟩ : ∃ z, x * y = z := ⟨_, rfl⟩
            have hzb : 0 ≤ z ∧ z ≤ 2 := by rcases (show x = 0 ∨ x = 1 by omega) with rfl | rfl <;> omega
            have ez : IntKind.i64.wrap (x * y) = z := by rw [hz]; exact IntWalk.i64_in _ (by omega)
            replace hz := Lib.hid hz
            obtain ⟨m, hm⟩ : ∃ m : Nat, 1 + z = (m : Int) := ⟨(1 + z).toNat, by omega⟩
            have hmb : m ≤ 3 := by omega
            go_wp2_with fail
            refine (longAny m _ _ (by omega)).mono ?_
            rintro e wd ⟨s2, rfl, hs2, bd0⟩
            have hcd := hcc.stay bd0
            have bd := bThen bc bd0
            have hts2 : (t ++ s2).size ≤ 8 * 0 + 3 := by rw [ByteArray.size_append]; omega
            have hcat : t.size + s2.size ≤ 9223372036854775807 := by omega
            replace hs2 := Lib.hid hs2
            clear bb bc bd0 hcb hcc hgb hgc
            go_wp2
            go_loopw [5, 7] (fun s k wr => ∃ (u : ByteArray) (i : Nat), s = .string u ∧ k = .int .i64 (i : Int) ∧ i ≤ 5 ∧ u.size ≤ 8 * 0 + 3 + i ∧ Cur wr c ∧ Below w.heap.size w wr) (fun _ k _ => 6 - (intOf k).toNat)
            case atStart => exact ⟨t ++ s2, 0, rfl, rfl, by omega, hts2, hcd, bd⟩
            case round =>
              obtain ⟨wi, rfl⟩ : ∃ wi, wi = wr := ⟨_, rfl⟩
              obtain ⟨u, i, rfl, rfl, hi, hus, hci, hbi⟩ := hrel
              go_wp2_with fail
              refine (belowDraw hci (by omega) (by omega)).mono ?_
              rintro e wp ⟨p, hp0, hp1, rfl, hcp, hgp⟩
              have bp := grown_below hbi hgp hcw
              by_cases hle : (i : Int) ≤ p
              · have hd : decide ((i : Int) ≤ p) = true := decide_eq_true hle
                go_wp2_with fail
                refine (belowDraw hcp (by omega) (by omega)).mono ?_
                rintro e wq ⟨r, hr0, hr1, rfl, hcq, hgq⟩
                have bq := grown_below bp hgq hcw
                have e1 : IntKind.u8.wrap (33 + r) = 33 + r := by rw [IntKind.wrap_u8]; omega
                have hcv := own_string (OB.lit wq (33 + r)) _ rfl
                have hs1 := bstr_size [33 + r]
                obtain ⟨b, hbe⟩ : ∃ b, b = bstr [33 + r] := ⟨_, rfl⟩
                rw [← hbe] at hcv hs1
                have hs3 : b.size = 1 := hs1
                clear hbe hs1
                have hcat2 : u.size + b.size ≤ 9223372036854775807 := by omega
                go_wp2
                go_roundw
                case rel => exact ⟨u ++ b, i + 1, rfl, by go_num, by omega, by rw [ByteArray.size_append]; omega, hcq.alloc _, bq.alloc bq.size _⟩
                case measure => simp only [intOf]; omega
              · have hd : decide ((i : Int) ≤ p) = false := decide_eq_false hle
                go_wp2
                go_roundw
                case rel => exact ⟨u, 0 + 1, rfl, by go_num, by omega, by omega, hcp, bp⟩
                case measure => simp only [intOf]; omega
        · have hd0 : decide ((0 : Int) < (j : Int)) = true := decide_eq_true (by omega)
          go_wp2_with fail
          refine (belowDraw hc (by omega) (by omega)).mono ?_
          rintro e wb ⟨x, hx0, hx1, rfl, hcb, hgb⟩
          have bb := grown_below hb hgb hcw
          go_wp2_with fail
          refine (belowDraw hcb (by omega) (by omega)).mono ?_
          rintro e wc ⟨y, hy0, hy1, rfl, hcc, hgc⟩
          have bc := grown_below bb hgc hcw
          obtain ⟨z, hz⟩ : ∃ z, x * y = z := ⟨_, rfl⟩
          have hzb : 0 ≤ z ∧ z ≤ 2 := by rcases (show x = 0 ∨ x = 1 by omega) with rfl | rfl <;> omega
          have ez : IntKind.i64.wrap (x * y) = z := by rw [hz]; exact IntWalk.i64_in _ (by omega)
          replace hz := Lib.hid hz
          obtain ⟨m, hm⟩ : ∃ m : Nat, 1 + z = (m : Int) := ⟨(1 + z).toNat, by omega⟩
          have hmb : m ≤ 3 := by omega
          go_wp2_with fail
          refine (longAny m _ _ (by omega)).mono ?_
          rintro e wd ⟨s2, rfl, hs2, bd0⟩
          have hcd := hcc.stay bd0
          have bd := bThen bc bd0
          have hts2 : (t ++ s2).size ≤ 8 * j + 3 := by rw [ByteArray.size_append]; omega
          have hcat : t.size + s2.size ≤ 9223372036854775807 := by omega
          replace hs2 := Lib.hid hs2
          clear bb bc bd0 hcb hcc hgb hgc
          go_wp2
          go_loopw [5, 7] (fun s k wr => ∃ (u : ByteArray) (i : Nat), s = .string u ∧ k = .int .i64 (i : Int) ∧ i ≤ 5 ∧ u.size ≤ 8 * j + 3 + i ∧ Cur wr c ∧ Below w.heap.size w wr) (fun _ k _ => 6 - (intOf k).toNat)
          case atStart => exact ⟨t ++ s2, 0, rfl, rfl, by omega, hts2, hcd, bd⟩
          case round =>
            obtain ⟨wi, rfl⟩ : ∃ wi, wi = wr := ⟨_, rfl⟩
            obtain ⟨u, i, rfl, rfl, hi, hus, hci, hbi⟩ := hrel
            go_wp2_with fail
            refine (belowDraw hci (by omega) (by omega)).mono ?_
            rintro e wp ⟨p, hp0, hp1, rfl, hcp, hgp⟩
            have bp := grown_below hbi hgp hcw
            by_cases hle : (i : Int) ≤ p
            · have hd : decide ((i : Int) ≤ p) = true := decide_eq_true hle
              go_wp2_with fail
              refine (belowDraw hcp (by omega) (by omega)).mono ?_
              rintro e wq ⟨r, hr0, hr1, rfl, hcq, hgq⟩
              have bq := grown_below bp hgq hcw
              have e1 : IntKind.u8.wrap (33 + r) = 33 + r := by rw [IntKind.wrap_u8]; omega
              have hcv := own_string (OB.lit wq (33 + r)) _ rfl
              have hs1 := bstr_size [33 + r]
              obtain ⟨b, hbe⟩ : ∃ b, b = bstr [33 + r] := ⟨_, rfl⟩
              rw [← hbe] at hcv hs1
              have hs3 : b.size = 1 := hs1
              clear hbe hs1
              have hcat2 : u.size + b.size ≤ 9223372036854775807 := by omega
              go_wp2
              go_roundw
              case rel => exact ⟨u ++ b, i + 1, rfl, by go_num, by omega, by rw [ByteArray.size_append]; omega, hcq.alloc _, bq.alloc bq.size _⟩
              case measure => simp only [intOf]; omega
            · have hd : decide ((i : Int) ≤ p) = false := decide_eq_false hle
              go_wp2
              go_roundw
              case rel => exact ⟨u, j + 1, rfl, by go_num, by omega, by omega, hcp, bp⟩
              case measure => simp only [intOf]; omega
      · obtain rfl : j = n := by omega
        go_wp2_with fail
        refine (belowDraw hc (by omega) (by omega)).mono ?_
        rintro e w1 ⟨x, hx0, hx1, rfl, hc1, hg1⟩
        have b1 := grown_below hb hg1 hcw
        by_cases hx : x = 0
        · subst hx
          go_wp2_with fail
          refine (pickS (hc1.alloc _) (OS.lit6 w1 _ _ _ _ _ _) hc1.lt (by simp) (by simp) lit6_size).mono ?_
          rintro e w2 ⟨s2, rfl, hs2, hc2, hg2⟩
          have b2 := grown_below (b1.alloc b1.size _) hg2 hcw
          have hcat : t.size + s2.size ≤ 9223372036854775807 := by omega
          go_wp2
          go_ret
          exact ⟨t ++ s2, rfl, by rw [ByteArray.size_append]; omega, b2⟩
        · have q0 : (x == 0) = false := by rw [beq_eq_false_iff_ne]; exact hx
          by_cases hy : x = 1
          · subst hy
            by_cases hl : t.size < 600
            · have hd : decide ((t.size : Int) < 600) = true := decide_eq_true (by omega)
              go_wp2_with fail
              refine (belowDraw hc1 (by omega) (by omega)).mono ?_
              rintro e w2 ⟨y, hy0, hy1, rfl, hc2, hg2⟩
              have b2 := grown_below b1 hg2 hcw
              obtain ⟨m, hm⟩ : ∃ m : Nat, 600 - (t.size : Int) + y = (m : Int) := ⟨(600 - (t.size : Int) + y).toNat, by omega⟩
              have hmb : m ≤ 601 := by omega
              go_wp2_with fail
              refine (longAny m _ _ (by omega)).mono ?_
              rintro e w3 ⟨s2, rfl, hs2, b3⟩
              have bb3 := bThen b2 b3
              have hcat : t.size + s2.size ≤ 9223372036854775807 := by omega
              have hsz : (t ++ s2).size ≤ 2000 := by rw [ByteArray.size_append]; omega
              replace hs2 := Lib.hid hs2
              go_wp2
              go_ret
              exact ⟨t ++ s2, rfl, hsz, bb3⟩
            · have hd : decide ((t.size : Int) < 600) = false := decide_eq_false (by omega)
              go_wp2
              go_ret
              exact ⟨t, rfl, by omega, b1⟩
          · have q1 : (x == 1) = false := by rw [beq_eq_false_iff_ne]; exact hy
            go_wp2
            go_ret
            exact ⟨t, rfl, by omega, b1⟩

  · go_wp2_with fail
    refine (belowDraw hc3 (by omega) (by omega)).mono ?_
    rintro e w4 ⟨y, hy0, hy1, rfl, hc4, hg4⟩
    have b4 := grown_below b3 hg4 hcw
    obtain ⟨n, hn⟩ : ∃ n : Nat, 24 + y = (n : Int) := ⟨(24 + y).toNat, by omega⟩
    have hnb : n ≤ 25 := by omega
    clear hc1 hc2 hg2 hg3 b1 b2 b3 hc3 hg4
    go_wp2
    go_loopw [5, 6, 7] (fun s i _ wr => ∃ (t : ByteArray) (j : Nat), s = .string t ∧ i = .int .i64 (j : Int) ∧ j ≤ n ∧ t.size ≤ 8 * j ∧ Cur wr c ∧ Below w.heap.size w wr) (fun _ i _ _ => n - (intOf i).toNat)
    case atStart => exact ⟨⟨#[]⟩, 0, rfl, rfl, Nat.zero_le _, Nat.zero_le _, hc4, b4⟩
    case round =>
      obtain ⟨wo, rfl⟩ : ∃ wo, wo = wr := ⟨_, rfl⟩
      obtain ⟨t, j, rfl, rfl, hj, hts, hc, hb⟩ := hrel
      by_cases hlt : j < n
      · by_cases h0 : j = 0
        · subst h0
          go_wp2_with fail
          refine (onceDraw hc (by omega) (by omega)).mono ?_
          rintro e wa ⟨q, rfl, hca, hga⟩
          have ba := grown_below hb hga hcw
          cases q
          · go_wp2
            go_loopw [5, 7] (fun s k wr => ∃ (u : ByteArray) (i : Nat), s = .string u ∧ k = .int .i64 (i : Int) ∧ i ≤ 5 ∧ u.size ≤ 8 * 0 + 3 + i ∧ Cur wr c ∧ Below w.heap.size w wr) (fun _ k _ => 6 - (intOf k).toNat)
            case atStart => exact ⟨t, 0, rfl, rfl, by omega, by omega, hca, ba⟩
            case round =>
              obtain ⟨wi, rfl⟩ : ∃ wi, wi = wr := ⟨_, rfl⟩
              obtain ⟨u, i, rfl, rfl, hi, hus, hci, hbi⟩ := hrel
              go_wp2_with fail
              refine (belowDraw hci (by omega) (by omega)).mono ?_
              rintro e wp ⟨p, hp0, hp1, rfl, hcp, hgp⟩
              have bp := grown_below hbi hgp hcw
              by_cases hle : (i : Int) ≤ p
              · have hd : decide ((i : Int) ≤ p) = true := decide_eq_true hle
                go_wp2_with fail
                refine (belowDraw hcp (by omega) (by omega)).mono ?_
                rintro e wq ⟨r, hr0, hr1, rfl, hcq, hgq⟩
                have bq := grown_below bp hgq hcw
                have e1 : IntKind.u8.wrap (33 + r) = 33 + r := by rw [IntKind.wrap_u8]; omega
                have hcv := own_string (OB.lit wq (33 + r)) _ rfl
                have hs1 := bstr_size [33 + r]
                obtain ⟨b, hbe⟩ : ∃ b, b = bstr [33 + r] := ⟨_, rfl⟩
                rw [← hbe] at hcv hs1
                have hs3 : b.size = 1 := hs1
                clear hbe hs1
                have hcat2 : u.size + b.size ≤ 9223372036854775807 := by omega
                go_wp2
                go_roundw
                case rel => exact ⟨u ++ b, i + 1, rfl, by go_num, by omega, by rw [ByteArray.size_append]; omega, hcq.alloc _, bq.alloc bq.size _⟩
                case measure => simp only [intOf]; omega
              · have hd : decide ((i : Int) ≤ p) = false := decide_eq_false hle
                go_wp2
                go_roundw
                case rel => exact ⟨u, 0 + 1, rfl, by go_num, by omega, by omega, hcp, bp⟩
                case measure => simp only [intOf]; omega
          · go_wp2_with fail
            refine (belowDraw hca (by omega) (by omega)).mono ?_
            rintro e wb ⟨x, hx0, hx1, rfl, hcb, hgb⟩
            have bb := grown_below ba hgb hcw
            go_wp2_with fail
            refine (belowDraw hcb (by omega) (by omega)).mono ?_
            rintro e wc ⟨y, hy0, hy1, rfl, hcc, hgc⟩
            have bc := grown_below bb hgc hcw
            obtain ⟨z, hz⟩ : ∃ z, x * y = z := ⟨_, rfl⟩
            have hzb : 0 ≤ z ∧ z ≤ 2 := by rcases (show x = 0 ∨ x = 1 by omega) with rfl | rfl <;> omega
            have ez : IntKind.i64.wrap (x * y) = z := by rw [hz]; exact IntWalk.i64_in _ (by omega)
            replace hz := Lib.hid hz
            obtain ⟨m, hm⟩ : ∃ m : Nat, 1 + z = (m : Int) := ⟨(1 + z).toNat, by omega⟩
            have hmb : m ≤ 3 := by omega
            go_wp2_with fail
            refine (longAny m _ _ (by omega)).mono ?_
            rintro e wd ⟨s2, rfl, hs2, bd0⟩
            have hcd := hcc.stay bd0
            have bd := bThen bc bd0
            have hts2 : (t ++ s2).size ≤ 8 * 0 + 3 := by rw [ByteArray.size_append]; omega
            have hcat : t.size + s2.size ≤ 9223372036854775807 := by omega
            replace hs2 := Lib.hid hs2
            clear bb bc bd0 hcb hcc hgb hgc
            go_wp2
            go_loopw [5, 7] (fun s k wr => ∃ (u : ByteArray) (i : Nat), s = .string u ∧ k = .int .i64 (i : Int) ∧ i ≤ 5 ∧ u.size ≤ 8 * 0 + 3 + i ∧ Cur wr c ∧ Below w.heap.size w wr) (fun _ k _ => 6 - (intOf k).toNat)
            case atStart => exact ⟨t ++ s2, 0, rfl, rfl, by omega, hts2, hcd, bd⟩
            case round =>
              obtain ⟨wi, rfl⟩ : ∃ wi, wi = wr := ⟨_, rfl⟩
              obtain ⟨u, i, rfl, rfl, hi, hus, hci, hbi⟩ := hrel
              go_wp2_with fail
              refine (belowDraw hci (by omega) (by omega)).mono ?_
              rintro e wp ⟨p, hp0, hp1, rfl, hcp, hgp⟩
              have bp := grown_below hbi hgp hcw
              by_cases hle : (i : Int) ≤ p
              · have hd : decide ((i : Int) ≤ p) = true := decide_eq_true hle
                go_wp2_with fail
                refine (belowDraw hcp (by omega) (by omega)).mono ?_
                rintro e wq ⟨r, hr0, hr1, rfl, hcq, hgq⟩
                have bq := grown_below bp hgq hcw
                have e1 : IntKind.u8.wrap (33 + r) = 33 + r := by rw [IntKind.wrap_u8]; omega
                have hcv := own_string (OB.lit wq (33 + r)) _ rfl
                have hs1 := bstr_size [33 + r]
                obtain ⟨b, hbe⟩ : ∃ b, b = bstr [33 + r] := ⟨_, rfl⟩
                rw [← hbe] at hcv hs1
                have hs3 : b.size = 1 := hs1
                clear hbe hs1
                have hcat2 : u.size + b.size ≤ 9223372036854775807 := by omega
                go_wp2
                go_roundw
                case rel => exact ⟨u ++ b, i + 1, rfl, by go_num, by omega, by rw [ByteArray.size_append]; omega, hcq.alloc _, bq.alloc bq.size _⟩
                case measure => simp only [intOf]; omega
              · have hd : decide ((i : Int) ≤ p) = false := decide_eq_false hle
                go_wp2
                go_roundw
                case rel => exact ⟨u, 0 + 1, rfl, by go_num, by omega, by omega, hcp, bp⟩
                case measure => simp only [intOf]; omega
        · have hd0 : decide ((0 : Int) < (j : Int)) = true := decide_eq_true (by omega)
          go_wp2_with fail
          refine (belowDraw hc (by omega) (by omega)).mono ?_
          rintro e wb ⟨x, hx0, hx1, rfl, hcb, hgb⟩
          have bb := grown_below hb hgb hcw
          go_wp2_with fail
          refine (belowDraw hcb (by omega) (by omega)).mono ?_
          rintro e wc ⟨y, hy0, hy1, rfl, hcc, hgc⟩
          have bc := grown_below bb hgc hcw
          obtain ⟨z, hz⟩ : ∃ z, x * y = z := ⟨_, rfl⟩
          have hzb : 0 ≤ z ∧ z ≤ 2 := by rcases (show x = 0 ∨ x = 1 by omega) with rfl | rfl <;> omega
          have ez : IntKind.i64.wrap (x * y) = z := by rw [hz]; exact IntWalk.i64_in _ (by omega)
          replace hz := Lib.hid hz
          obtain ⟨m, hm⟩ : ∃ m : Nat, 1 + z = (m : Int) := ⟨(1 + z).toNat, by omega⟩
          have hmb : m ≤ 3 := by omega
          go_wp2_with fail
          refine (longAny m _ _ (by omega)).mono ?_
          rintro e wd ⟨s2, rfl, hs2, bd0⟩
          have hcd := hcc.stay bd0
          have bd := bThen bc bd0
          have hts2 : (t ++ s2).size ≤ 8 * j + 3 := by rw [ByteArray.size_append]; omega
          have hcat : t.size + s2.size ≤ 9223372036854775807 := by omega
          replace hs2 := Lib.hid hs2
          clear bb bc bd0 hcb hcc hgb hgc
          go_wp2
          go_loopw [5, 7] (fun s k wr => ∃ (u : ByteArray) (i : Nat), s = .string u ∧ k = .int .i64 (i : Int) ∧ i ≤ 5 ∧ u.size ≤ 8 * j + 3 + i ∧ Cur wr c ∧ Below w.heap.size w wr) (fun _ k _ => 6 - (intOf k).toNat)
          case atStart => exact ⟨t ++ s2, 0, rfl, rfl, by omega, hts2, hcd, bd⟩
          case round =>
            obtain ⟨wi, rfl⟩ : ∃ wi, wi = wr := ⟨_, rfl⟩
            obtain ⟨u, i, rfl, rfl, hi, hus, hci, hbi⟩ := hrel
            go_wp2_with fail
            refine (belowDraw hci (by omega) (by omega)).mono ?_
            rintro e wp ⟨p, hp0, hp1, rfl, hcp, hgp⟩
            have bp := grown_below hbi hgp hcw
            by_cases hle : (i : Int) ≤ p
            · have hd : decide ((i : Int) ≤ p) = true := decide_eq_true hle
              go_wp2_with fail
              refine (belowDraw hcp (by omega) (by omega)).mono ?_
              rintro e wq ⟨r, hr0, hr1, rfl, hcq, hgq⟩
              have bq := grown_below bp hgq hcw
              have e1 : IntKind.u8.wrap (33 + r) = 33 + r := by rw [IntKind.wrap_u8]; omega
              have hcv := own_string (OB.lit wq (33 + r)) _ rfl
              have hs1 := bstr_size [33 + r]
              obtain ⟨b, hbe⟩ : ∃ b, b = bstr [33 + r] := ⟨_, rfl⟩
              rw [← hbe] at hcv hs1
              have hs3 : b.size = 1 := hs1
              clear hbe hs1
              have hcat2 : u.size + b.size ≤ 9223372036854775807 := by omega
              go_wp2
              go_roundw
              case rel => exact ⟨u ++ b, i + 1, rfl, by go_num, by omega, by rw [ByteArray.size_append]; omega, hcq.alloc _, bq.alloc bq.size _⟩
              case measure => simp only [intOf]; omega
            · have hd : decide ((i : Int) ≤ p) = false := decide_eq_false hle
              go_wp2
              go_roundw
              case rel => exact ⟨u, j + 1, rfl, by go_num, by omega, by omega, hcp, bp⟩
              case measure => simp only [intOf]; omega
      · obtain rfl : j = n := by omega
        go_wp2_with fail
        refine (belowDraw hc (by omega) (by omega)).mono ?_
        rintro e w1 ⟨x, hx0, hx1, rfl, hc1, hg1⟩
        have b1 := grown_below hb hg1 hcw
        by_cases hx : x = 0
        · subst hx
          go_wp2_with fail
          refine (pickS (hc1.alloc _) (OS.lit6 w1 _ _ _ _ _ _) hc1.lt (by simp) (by simp) lit6_size).mono ?_
          rintro e w2 ⟨s2, rfl, hs2, hc2, hg2⟩
          have b2 := grown_below (b1.alloc b1.size _) hg2 hcw
          have hcat : t.size + s2.size ≤ 9223372036854775807 := by omega
          go_wp2
          go_ret
          exact ⟨t ++ s2, rfl, by rw [ByteArray.size_append]; omega, b2⟩
        · have q0 : (x == 0) = false := by rw [beq_eq_false_iff_ne]; exact hx
          by_cases hy : x = 1
          · subst hy
            by_cases hl : t.size < 600
            · have hd : decide ((t.size : Int) < 600) = true := decide_eq_true (by omega)
              go_wp2_with fail
              refine (belowDraw hc1 (by omega) (by omega)).mono ?_
              rintro e w2 ⟨y, hy0, hy1, rfl, hc2, hg2⟩
              have b2 := grown_below b1 hg2 hcw
              obtain ⟨m, hm⟩ : ∃ m : Nat, 600 - (t.size : Int) + y = (m : Int) := ⟨(600 - (t.size : Int) + y).toNat, by omega⟩
              have hmb : m ≤ 601 := by omega
              go_wp2_with fail
              refine (longAny m _ _ (by omega)).mono ?_
              rintro e w3 ⟨s2, rfl, hs2, b3⟩
              have bb3 := bThen b2 b3
              have hcat : t.size + s2.size ≤ 9223372036854775807 := by omega
              have hsz : (t ++ s2).size ≤ 2000 := by rw [ByteArray.size_append]; omega
              replace hs2 := Lib.hid hs2
              go_wp2
              go_ret
              exact ⟨t ++ s2, rfl, hsz, bb3⟩
            · have hd : decide ((t.size : Int) < 600) = false := decide_eq_false (by omega)
              go_wp2
              go_ret
              exact ⟨t, rfl, by omega, b1⟩
          · have q1 : (x == 1) = false := by rw [beq_eq_false_iff_ne]; exact hy
            go_wp2
            go_ret
            exact ⟨t, rfl, by omega, b1⟩

end Go.Proofs.YthonlkconobdfaaDoor
