/- A map of ints that the call made, read as a function; and what a range over it lays into another. No program in sight but the map's own laws. -/
import Derived.Test.YtbndfohnkdhgeaaRows
import Derived.Test.YtbndfohnkdhgeaaPre
import Derived.Maps.OwnOps
import Derived.Maps.RangeWalk
import Derived.Maps.Views
namespace Go.Proofs.Ytbndfohnkdhgeaa
open Go.RowKit Go.Maps

theorem lawInt : Keyed Try.prog 3 := int_keyed Try.underlying3
theorem zeroInt (w : World) : (zeroValue 3).run Try.prog w = .ok (.int .i64 0) w := by kernel_rfl

/-- 'm[k] = v' in a map that is written out: a store like any other. -/
theorem wpList_insert_own {H : Type} {P : Program} (w : World) {ops : Array Oper} {rest : List Oper} {o : Oper} {a : Act} {Q : Exit → Act → World → Prop}
    (hg : o.guard = none) (m x v : Operand) (t : TypeId) (hop : o.op = Op.insert t m x v)
    (k e : TypeId) (K : Keyed P k) (ht : P.underlying t = some (.map k e)) (R : Value → Option (DataW H × List MemPlace)) (b n : Nat) (D : DataW H)
    (hm : a.eval m = .map (some b)) (hown : w.ownsMap P k R b n D) (hn : n < maxLen) (key val : Value) (kl : Lit) (hx : a.eval x = key) (hv : a.eval v = val) (hkey : keyOf P k key = some kl)
    (d : DataW H) (ps : List MemPlace) (hval : R val = some (d, ps))
    (hK : ∀ w', w'.ownsMap P k R b (n + 1) (D.put kl d) → w.grownBy w' (some b) → wpList P ops Q rest (a.put o.dst undef) w') :
    wpList P ops Q (o :: rest) a w := by
  refine wpList_plain hg fun K' hK' => ?_
  obtain ⟨w', hrun, r1, r2⟩ := hown.update K ht hn hkey hval
  unfold Oper.wp
  simp [execOp, hop, hm, hx, hv, hrun, Result.andThen]
  exact hK' _ _ (hK w' r1 r2)

theorem wfI {x : Int} (h : -9223372036854775808 ≤ x ∧ x ≤ 9223372036854775807) : (Lit.int .i64 x).wf = true := WalkArith.wf_i64 h
theorem keyInt {x : Int} (h : (Lit.int .i64 x).wf = true) : keyOf Try.prog 3 (.int .i64 x) = some (.int .i64 x) := keyOf_int_mk Try.underlying3 h
theorem elemInt {x : Int} (h : (Lit.int .i64 x).wf = true) : plainElem (H := Unit) Try.prog 3 (.int .i64 x) = some (.lit (.int .i64 x), []) := plainElem_int Try.underlying3 h
theorem isKey {x : Int} (h : (Lit.int .i64 x).wf = true) : WideAt.IsKeyLit (.int .i64 x) := lawInt.key (keyInt h)

theorem lit_inj {x y : Int} (h : Lit.int .i64 x = Lit.int .i64 y) : x = y := by cases h; rfl
theorem same_int {k x : Int} (hx : (Lit.int .i64 x).wf = true) : (Lit.int .i64 k).sameKey (.int .i64 x) = decide (k = x) := by
  by_cases e : k = x
  · subst e
    rw [WideAt.sameKey_self (isKey hx), decide_eq_true rfl]
  · rw [sameKey_ne (fun h => e (lit_inj h)), decide_eq_false e]

/-- The datum D reads as the function f: 0 outside -B .. B. -/
structure Rep (D : DataW Unit) (f : Int → Int) (B : Int) : Prop where
  isMap : IsMap D
  val : ∀ k, D.atKey (.int .i64 k) (.lit (.int .i64 0)) = .lit (.int .i64 (f k))
  sup : ∀ k, has D (.int .i64 k) = true → -B ≤ k ∧ k ≤ B
theorem datInj {x y : Int} (h : (DataW.lit (.int .i64 x) : DataW Unit) = .lit (.int .i64 y)) : x = y := by cases h; rfl
theorem Rep.zero {D : DataW Unit} {f : Int → Int} {B k : Int} (h : Rep D f B) (hk : has D (.int .i64 k) = false) : f k = 0 := by
  have := h.val k
  rw [atKey_of_not_has hk] at this
  exact (datInj this).symm
theorem Rep.out {D : DataW Unit} {f : Int → Int} {B k : Int} (h : Rep D f B) (hk : ¬ (-B ≤ k ∧ k ≤ B)) : f k = 0 := by
  refine h.zero ?_
  cases e : has D (.int .i64 k)
  · rfl
  · exact absurd (h.sup k e) hk
theorem Rep.empty (B : Int) : Rep (.map []) (fun _ => 0) B := ⟨isMap_empty, fun k => atKey_of_not_has rfl _, fun k h => by cases h⟩
theorem Rep.put {D : DataW Unit} {f : Int → Int} {B x c : Int} (h : Rep D f B) (hw : (Lit.int .i64 x).wf = true) (hx : -B ≤ x ∧ x ≤ B) :
    Rep (D.put (.int .i64 x) (.lit (.int .i64 c))) (fun k => if k = x then c else f k) B := by
  refine ⟨h.isMap.put _ _, fun k => ?_, fun k hk => ?_⟩
  · by_cases e : k = x
    · subst e
      rw [atKey_put_same h.isMap (isKey hw), if_pos rfl]
    · rw [atKey_put_other (fun q => e (lit_inj q)), if_neg e]; exact h.val k
  · by_cases e : k = x
    · subst e; exact hx
    · rw [has_put_other (fun q => e (lit_inj q))] at hk; exact h.sup k hk
theorem Rep.mono {D : DataW Unit} {f : Int → Int} {B B' : Int} (h : Rep D f B) (hb : B ≤ B') : Rep D f B' := ⟨h.isMap, h.val, fun k hk => by have := h.sup k hk; omega⟩
theorem Rep.congr {D : DataW Unit} {f g : Int → Int} {B : Int} (h : Rep D f B) (e : ∀ k, f k = g k) : Rep D g B := by rw [← funext e]; exact h

theorem size_le {w : World} {b n : Nat} {D : DataW Unit} (h : w.ownsMap Try.prog 3 (plainElem Try.prog 3) b n D) : Maps.size D ≤ n := by
  obtain ⟨es, _, _, _, hs, rfl⟩ := h
  rw [Maps.size_eq, length_sorted, List.length_map]
  exact hs

/-- Block b is a map that reads as f, of at most n entries. -/
def MapAt (w : World) (b n : Nat) (f : Int → Int) (B : Int) : Prop := ∃ D : DataW Unit, w.ownsMap Try.prog 3 (plainElem Try.prog 3) b n D ∧ Rep D f B
def RetMap (W : World) (f : Int → Int) (B : Int) (n : Nat) (e : Ending) (w' : World) : Prop := ∃ b, e = .returned (.map (some b)) ∧ W.heap.size ≤ b ∧ MapAt w' b n f B ∧ Below W.heap.size W w'

section
variable (w : World) {ops : Array Oper} {rest : List Oper} {o : Oper} {a : Act} {Q : Exit → Act → World → Prop}
/-- 'm[k]' of a map that reads as f. -/
theorem wpList_lookF (hg : o.guard = none) (m x : Operand) (hop : o.op = Op.lookup 40 m x false) {b n : Nat} {D : DataW Unit} {f : Int → Int} {B : Int} (hm : a.eval m = .map (some b)) (hown : w.ownsMap Try.prog 3 (plainElem Try.prog 3) b n D) (hR : Rep D f B)
    (key v : Int) (hx : a.eval x = .int .i64 key) (hw : (Lit.int .i64 key).wf = true) (hv : f key = v) (hK : wpList Try.prog ops Q rest (a.put o.dst (.int .i64 v)) w) : wpList Try.prog ops Q (o :: rest) a w := by
  refine wpList_lookup_own_int w hg m x 40 hop 3 3 .i64 lawInt Try.underlying40 Try.underlying3 (zeroInt w) b n D hm hown _ _ hx (keyInt hw) ?_
  intro c hat _
  rw [hR.val] at hat
  rw [← datInj hat, hv]
  exact hK
/-- 'm[k] = v'. -/
theorem wpList_storeF (hg : o.guard = none) (m x y : Operand) (hop : o.op = Op.mapUpdate 40 m x y) {b n : Nat} {D : DataW Unit} (hm : a.eval m = .map (some b)) (hown : w.ownsMap Try.prog 3 (plainElem Try.prog 3) b n D) (hn : n < maxLen)
    (key v : Int) (hx : a.eval x = .int .i64 key) (hy : a.eval y = .int .i64 v) (hw : (Lit.int .i64 key).wf = true) (hv : (Lit.int .i64 v).wf = true)
    (hK : ∀ w', w'.ownsMap Try.prog 3 (plainElem Try.prog 3) b (n + 1) (D.put (.int .i64 key) (.lit (.int .i64 v))) → w.grownBy w' (some b) → wpList Try.prog ops Q rest (a.put o.dst undef) w') : wpList Try.prog ops Q (o :: rest) a w :=
  wpList_mapUpdate_own w hg m x y 40 hop 3 3 lawInt Try.underlying40 (plainElem Try.prog 3) b n D hm hown hn _ _ _ hx hy (keyInt hw) _ [] (elemInt hv) hK
theorem wpList_insertF (hg : o.guard = none) (m x y : Operand) (hop : o.op = Op.insert 40 m x y) {b n : Nat} {D : DataW Unit} (hm : a.eval m = .map (some b)) (hown : w.ownsMap Try.prog 3 (plainElem Try.prog 3) b n D) (hn : n < maxLen)
    (key v : Int) (hx : a.eval x = .int .i64 key) (hy : a.eval y = .int .i64 v) (hw : (Lit.int .i64 key).wf = true) (hv : (Lit.int .i64 v).wf = true)
    (hK : ∀ w', w'.ownsMap Try.prog 3 (plainElem Try.prog 3) b (n + 1) (D.put (.int .i64 key) (.lit (.int .i64 v))) → w.grownBy w' (some b) → wpList Try.prog ops Q rest (a.put o.dst undef) w') : wpList Try.prog ops Q (o :: rest) a w :=
  wpList_insert_own w hg m x y 40 hop 3 3 lawInt Try.underlying40 (plainElem Try.prog 3) b n D hm hown hn _ _ _ hx hy (keyInt hw) _ [] (elemInt hv) hK
/-- 'range m'. -/
theorem wpList_rangeF (hg : o.guard = none) (m : Operand) (hop : o.op = Op.range 40 m) {b n : Nat} {D : DataW Unit} (hm : a.eval m = .map (some b)) (hown : w.ownsMap Try.prog 3 (plainElem Try.prog 3) b n D)
    (hK : ∀ w', w'.ranges Try.prog 3 (plainElem Try.prog 3) b w.heap.size n D (Maps.has D) (Maps.size D) → w.grownBy w' none → w'.heap.size = w.heap.size + 1 → wpList Try.prog ops Q rest (a.put o.dst (.pointer (some ⟨w.heap.size, 0, none⟩))) w') :
    wpList Try.prog ops Q (o :: rest) a w :=
  wpList_range_own w hg m 40 hop 3 3 lawInt Try.underlying40 (plainElem Try.prog 3) b n D hm hown hK
end

/-- h 0 + .. + h (j - 1). -/
def sumN (h : Nat → Int) : Nat → Int
  | 0 => 0
  | j + 1 => sumN h j + h j
theorem sumN_congr {h g : Nat → Int} {n : Nat} (e : ∀ t, t < n → h t = g t) : sumN h n = sumN g n := by
  induction n with
  | zero => rfl
  | succ n ih => rw [sumN, sumN, ih (fun t ht => e t (by omega)), e n (by omega)]
theorem sumN_zero (n : Nat) : sumN (fun _ => 0) n = 0 := by
  induction n with
  | zero => rfl
  | succ n ih => rw [sumN, ih]; rfl
theorem sumN_add (h g : Nat → Int) (n : Nat) : sumN (fun t => h t + g t) n = sumN h n + sumN g n := by
  induction n with
  | zero => rfl
  | succ n ih => rw [sumN, sumN, sumN, ih]; omega
theorem sumN_bd {h : Nat → Int} {M : Int} {n : Nat} (e : ∀ t, t < n → 0 ≤ h t ∧ h t ≤ M) : 0 ≤ sumN h n ∧ sumN h n ≤ n * M := by
  induction n with
  | zero => rw [sumN]; omega
  | succ n ih =>
    have h1 := ih (fun t ht => e t (by omega))
    have h2 := e n (by omega)
    have h3 : ((n + 1 : Nat) : Int) * M = n * M + M := by rw [Int.natCast_succ, Int.add_mul, Int.one_mul]
    rw [sumN, h3]
    omega

/-- The factors of one weight w are q 0 .. q (m - 1): n is come to from n - q t * w. -/
def conv (q : Nat → Int) (m : Nat) (w : Int) (f : Int → Int) (n : Int) : Int := sumN (fun t => f (n - q t * w)) m
/-- The same, of those entries alone that are no longer to come. -/
def convL (left : Lit → Bool) (q : Nat → Int) (m : Nat) (w : Int) (f : Int → Int) (n : Int) : Int := sumN (fun t => if left (.int .i64 (n - q t * w)) = true then 0 else f (n - q t * w)) m
/-- The same, with the first j factors of the entry at x besides. -/
def convJ (left : Lit → Bool) (q : Nat → Int) (m : Nat) (w : Int) (f : Int → Int) (x : Int) (j : Nat) (n : Int) : Int := convL left q m w f n + sumN (fun t => if n - q t * w = x then f x else 0) j

theorem convL_start {D : DataW Unit} {f : Int → Int} {B : Int} (h : Rep D f B) (q : Nat → Int) (m : Nat) (w n : Int) : convL (has D) q m w f n = 0 := by
  unfold convL
  refine (sumN_congr fun t _ => ?_).trans (sumN_zero m)
  by_cases e : has D (.int .i64 (n - q t * w)) = true
  · rw [if_pos e]
  · rw [if_neg e]; exact h.zero (by simpa using e)
theorem convL_end {left : Lit → Bool} (hl : ∀ kl, left kl = false) (q : Nat → Int) (m : Nat) (w : Int) (f : Int → Int) (n : Int) : convL left q m w f n = conv q m w f n := by
  unfold convL conv
  exact sumN_congr fun t _ => by rw [if_neg (by rw [hl]; exact Bool.false_ne_true)]
theorem convJ_zero (left : Lit → Bool) (q : Nat → Int) (m : Nat) (w : Int) (f : Int → Int) (x n : Int) : convJ left q m w f x 0 n = convL left q m w f n := by rw [convJ, sumN, Int.add_zero]
theorem convJ_end {left : Lit → Bool} {x : Int} (hx : left (.int .i64 x) = true) (hw : (Lit.int .i64 x).wf = true) (q : Nat → Int) (m : Nat) (w : Int) (f : Int → Int) (n : Int) :
    convJ left q m w f x m n = convL (fun z => left z && !z.sameKey (.int .i64 x)) q m w f n := by
  unfold convJ convL
  rw [← sumN_add]
  refine sumN_congr fun t _ => ?_
  simp only [same_int hw]
  by_cases e : n - q t * w = x
  · rw [if_pos e, e, if_pos hx, hx, decide_eq_true rfl]
    simp
  · rw [if_neg e, decide_eq_false e]
    simp
theorem convJ_step (left : Lit → Bool) (q : Nat → Int) (m : Nat) (w : Int) (f : Int → Int) (x : Int) (j : Nat) (n : Int) :
    (if n = x + q j * w then convJ left q m w f x j (x + q j * w) + f x else convJ left q m w f x j n) = convJ left q m w f x (j + 1) n := by
  by_cases e : n = x + q j * w
  · rw [if_pos e, ← e]
    unfold convJ
    rw [sumN, if_pos (by omega)]
    omega
  · rw [if_neg e]
    unfold convJ
    rw [sumN, if_neg (by omega), Int.add_zero]
theorem convL_bd {left : Lit → Bool} {q : Nat → Int} {m : Nat} {w : Int} {f : Int → Int} {M : Int} (hf : ∀ k, 0 ≤ f k ∧ f k ≤ M) (n : Int) : 0 ≤ convL left q m w f n ∧ convL left q m w f n ≤ m * M := by
  refine sumN_bd fun t _ => ?_
  have := hf (n - q t * w)
  split <;> omega
theorem convJ_bd {left : Lit → Bool} {q : Nat → Int} {m : Nat} {w : Int} {f : Int → Int} {M x : Int} {j : Nat} (hf : ∀ k, 0 ≤ f k ∧ f k ≤ M) (n : Int) : 0 ≤ convJ left q m w f x j n ∧ convJ left q m w f x j n ≤ m * M + j * M := by
  have h1 := convL_bd (left := left) (q := q) (m := m) (w := w) hf n
  have h2 := sumN_bd (h := fun t => if n - q t * w = x then f x else 0) (M := M) (n := j) (fun t _ => by have := hf x; split <;> omega)
  unfold convJ
  omega
theorem conv_bd {q : Nat → Int} {m : Nat} {w : Int} {f : Int → Int} {M : Int} (hf : ∀ k, 0 ≤ f k ∧ f k ≤ M) (n : Int) : 0 ≤ conv q m w f n ∧ conv q m w f n ≤ m * M := sumN_bd fun _ _ => hf _
end Go.Proofs.Ytbndfohnkdhgeaa
