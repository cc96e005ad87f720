import PyProof.Rows.All
import Wide.All
import OpenK.AllK
import Wide.FinOn
import PyProof.EqAt
import PyProof.EqKinds
import PyProof.TupleCall
import Open.SpecLaws
import KE.OsHead
import KE.OsGo
import HandS.ForSpec
import HandS.Comp
import HandS.Dict
import HandS.Iter
import HandS.Text
import HandS.Style
import HandS.Flt
import HandS.Evl
import HandS.Steps
import PySem.Challenge.RW_sureline_s05_sum_of
set_option Elab.async false
set_option linter.all false
set_option maxRecDepth 100000


set_option maxHeartbeats 4000000
/-! ### words over the hand layer: callees, fields, loops over pairs -/
namespace Sl
open PySem PySem.Spec PyProof.Rows L2 Evl
/-- bytes and other numbers as values -/
def vn (l : List Nat) : List V := l.map fun (n : Nat) => V.int (n : Int)
theorem vn_len (l : List Nat) : (vn l).length = l.length := by
  unfold vn
  rw [List.length_map]
theorem vn_get {l : List Nat} {i n : Nat} (h : l[i]? = some n) : (vn l)[i]? = some (V.int (n : Int)) := by
  unfold vn
  rw [List.getElem?_map, h]
  rfl
theorem of_vn_get {l : List Nat} {i : Nat} {x : V} (h : (vn l)[i]? = some x) : ∃ n, l[i]? = some n ∧ x = V.int (n : Int) := by
  unfold vn at h
  rw [List.getElem?_map] at h
  cases e : l[i]? with
  | none =>
    rw [e] at h
    cases h
  | some n =>
    rw [e] at h
    exact ⟨n, rfl, (Option.some.inj h).symm⟩
theorem vn_app (a b : List Nat) : vn (a ++ b) = vn a ++ vn b := by
  unfold vn
  rw [List.map_append]
theorem take_more {α : Type} : ∀ {l : List α} {i : Nat} {x : α}, l[i]? = some x → l.take (i + 1) = l.take i ++ [x]
  | [], i, x, h => by simp at h
  | a :: l, 0, x, h => by
    have e : a = x := Option.some.inj h
    subst e
    rfl
  | a :: l, i + 1, x, h => by
    have ih := take_more (l := l) (i := i) (x := x) h
    show a :: l.take (i + 1) = a :: l.take i ++ [x]
    rw [ih]
    rfl
section
variable {X : Cx} {x : Str} {pos : Pos}
theorem pe_gI {i : Int} (hg : Gl X x) (hm : ∃ t, X.mg x = some (.int i t)) (hd : (x == ("__debug__" : Str)) = false := by decide) : PE X (.Name x pos) (tC (.int i)) := by
  obtain ⟨t, h⟩ := hm
  exact pe_glob hg h ⟨t, rfl⟩ hd
theorem pe_gR {a : Addr} (hg : Gl X x) (hm : X.mg x = some (.ref a)) (hd : (x == ("__debug__" : Str)) = false := by decide) : PE X (.Name x pos) (tC (.ref a)) := pe_glob hg hm rfl hd
end
/-! callees -/
structure Ca (P : Program) (w : World) (K : PySem.W.Frag) (mg : Str → Option Value) (base : Heap) (k : Nat) (x : Str) (sp : Sp) : Prop where
  ex : ∃ (f : Addr) (fd : FuncData) (ps : List Str), FnOk P w K mg base CX0 k f fd ps sp ∧ mg x = some (.ref f) ∧ PySem.W.keepIn K (.ref f) = true ∧ Binds K fd ps []
structure Me (P : Program) (w : World) (K : PySem.W.Frag) (mg : Str → Option Value) (base : Heap) (k : Nat) (C : Addr) (m : Str) (sp : Sp) : Prop where
  ex : ∃ (f : Addr) (fd : FuncData) (ps : List Str), Cls K C ∧ Meth K C m f ∧ FnOk P w K mg base CX0 k f fd ps sp ∧ Binds K fd ps []
structure Ma (P : Program) (w : World) (K : PySem.W.Frag) (mg : Str → Option Value) (base : Heap) (k : Nat) (x : Str) (C : Addr) (sp : Sp) : Prop where
  ex : ∃ (f : Addr) (fd : FuncData) (ps : List Str), Mk K C f ∧ FnOk P w K mg base CX0 k f fd ps sp ∧ mg x = some (.ref C) ∧ Binds K fd ps []
section
variable {X : Cx} {k j : Nat} {C : Addr} {x m : Str} {sp : Sp} {p pos apos : Pos} {e o : Expr} {es : List Expr} {ta : TE} {t : TA}
theorem pc (c : Ca X.prog X.w X.K X.mg X.base k x sp) (hr : Room j X.A) (hk : k ≤ j) (hg : Gl X x) (ha : PA X (e :: es) t)
    (hdb : (x == ("__debug__" : Str)) = false := by decide) (he : starEach (e :: es) X.env = (false, eval e X.env) :: starEach es X.env := by rfl) (hpl : (backTo pos (starEach es X.env)).any (·.1) = false := by rfl) :
    PE X (.Call (.Name x p) (e :: es) [] pos) (tCall sp [] E0 t) := by
  obtain ⟨f, fd, ps, F, hm, kp, b⟩ := c.ex
  exact pe_call F (hr.mono hk) hg hm kp b .nil pass0 ha hdb he hpl
theorem pk (c : Ma X.prog X.w X.K X.mg X.base k x C sp) (hr : Room j X.A) (hk : k + 1 ≤ j) (hg : Gl X x) (ha : PA X (e :: es) t)
    (hdb : (x == ("__debug__" : Str)) = false := by decide) (he : starEach (e :: es) X.env = (false, eval e X.env) :: starEach es X.env := by rfl) (hpl : (backTo pos (starEach es X.env)).any (·.1) = false := by rfl) :
    PE X (.Call (.Name x p) (e :: es) [] pos) (tMake C sp [] E0 t) := by
  obtain ⟨f, fd, ps, M, F, hm, b⟩ := c.ex
  exact pe_make M F (hr.mono hk) hg hm b .nil pass0 ha hdb he hpl
theorem pk0 (c : Ma X.prog X.w X.K X.mg X.base k x C sp) (hr : Room j X.A) (hk : k + 1 ≤ j) (hg : Gl X x) (hdb : (x == ("__debug__" : Str)) = false := by decide) :
    PE X (.Call (.Name x p) [] [] pos) (tMake C sp [] E0 tNil) := by
  obtain ⟨f, fd, ps, M, F, hm, b⟩ := c.ex
  exact pe_make0 M F (hr.mono hk) hg hm b .nil pass0 hdb
theorem pm {pl : Sem Bool} (c : Me X.prog X.w X.K X.mg X.base k C m sp) (hr : Room j X.A) (hk : k ≤ j) (he : PE X o ta) (ha : PA X (e :: es) t)
    (hst : starEach (e :: es) X.env = (false, eval e X.env) :: starEach es X.env := by rfl) (hpl : (backTo pos (starEach es X.env)).any (·.1) = false := by rfl)
    (ht : eval (.Call (.Attribute o m apos) (e :: es) [] pos) X.env = (do
      let ov ← eval o X.env
      standAt apos.atName
      let (f, first) ← holding [ov] (getMethod ov m pl)
      callWith pos f first (backTo pos (starEach (e :: es) X.env)) (backToKw pos (keywordEach [] X.env))) := by rfl) :
    PE X (.Call (.Attribute o m apos) (e :: es) [] pos) (tMeth C m sp [] E0 ta t) := by
  obtain ⟨f, fd, ps, hc, hm, F, b⟩ := c.ex
  exact pe_meth (pl := pl) he hc hm F (hr.mono hk) b .nil pass0 ha hst hpl ht
theorem pm0 {pl : Sem Bool} (c : Me X.prog X.w X.K X.mg X.base k C m sp) (hr : Room j X.A) (hk : k ≤ j) (he : PE X o ta)
    (ht : eval (.Call (.Attribute o m apos) [] [] pos) X.env = (do
      let ov ← eval o X.env
      standAt apos.atName
      let (f, first) ← holding [ov] (getMethod ov m pl)
      callWith pos f first (backTo pos (starEach [] X.env)) (backToKw pos (keywordEach [] X.env))) := by rfl) :
    PE X (.Call (.Attribute o m apos) [] [] pos) (tMeth C m sp [] E0 ta tNil) := by
  obtain ⟨f, fd, ps, hc, hm, F, b⟩ := c.ex
  exact pe_meth0 (pl := pl) he hc hm F (hr.mono hk) b .nil pass0 ht
end
/-! readings -/
section
variable {K : PySem.W.Frag} {σ : L2.St} {H H' : Hp} {ta tb te tv : TE} {t : TA} {y z v : V} {D : Ends} {a C dx : Addr} {fs : List (Str × V)} {f m : Str} {sp : Sp} {vs xs : List V}
theorem ev_fld (h : Ev ta σ H (.ref a)) (ho : H a = some (.ins C dx fs)) (hc : Cls K C) (hn : NoAttr K C f) (hl : fs.lookup f = some v) : Ev (tFld K ta f) σ H v := fun H1 e Q q =>
  h H1 e _ fun H2 e2 => ⟨a, C, dx, fs, v, rfl, e2 _ _ (e _ _ ho), hc, hn, hl, q H2 e2⟩
theorem ev_meth (h : Ev ta σ H (.ref a)) (ho : H a = some (.ins C dx fs)) (hl : fs.lookup m = none) (hv : EvA t σ H vs) (hs : SpV sp (.ref a :: vs) H z) : Ev (tMeth C m sp [] E0 ta t) σ H z := fun H1 e Q q =>
  h H1 e _ fun H2 e2 => ⟨a, dx, fs, rfl, e2 _ _ (e _ _ ho), hl, hv H2 (e.trans e2) _ fun H3 e3 => by
    rw [List.append_nil]
    exact hs H3 ((e.trans e2).trans e3) Q (fun H4 e4 => q H4 ((e2.trans e3).trans e4)) E0⟩
theorem el_meth (h : Ev ta σ H (.ref a)) (ho : H a = some (.ins C dx fs)) (hl : fs.lookup m = none) (hv : EvA t σ H vs) (hs : SpL sp (.ref a :: vs) H xs) : EvL (tMeth C m sp [] E0 ta t) σ H xs := fun H1 e Q q =>
  h H1 e _ fun H2 e2 => ⟨a, dx, fs, rfl, e2 _ _ (e _ _ ho), hl, hv H2 (e.trans e2) _ fun H3 e3 => by
    rw [List.append_nil]
    exact hs H3 ((e.trans e2).trans e3) Q (fun p H4 hp e4 h4 => q p H4 (fresh_back (e2.trans e3) hp) ((e2.trans e3).trans e4) h4) E0⟩
theorem ev_pc (hv : EvA t σ H vs) (hs : SpV sp vs H z) : Ev (tCall sp [] E0 t) σ H z := ev_call hv (by rw [List.append_nil]; exact hs)
theorem el_pc (hv : EvA t σ H vs) (hs : SpL sp vs H xs) : EvL (tCall sp [] E0 t) σ H xs := el_call hv (by rw [List.append_nil]; exact hs)
theorem s_fld (hv : Ev tv σ H y) (ha : Ev ta σ H (.ref a)) (ho : H a = some (.ins C dx fs)) (hc : Cls K C) (hn : NoAttr K C f) (hl : fs.length < 1000) (q : ∀ H1, Ex H H1 → D.nx σ (upd H1 a (.ins C dx (putF f y fs)))) : sFld K ta tv f D σ H :=
  hv H (Ex.refl H) _ fun H1 e1 => ha H1 e1 _ fun H2 e2 => ⟨a, C, dx, fs, rfl, e2 _ _ (e1 _ _ ho), hc, hn, hl, q H2 (e1.trans e2)⟩
theorem s_fldL (hv : EvL tv σ H xs) (ha : Ev ta σ H (.ref a)) (ho : H a = some (.ins C dx fs)) (hc : Cls K C) (hn : NoAttr K C f) (hl : fs.length < 1000) (q : ∀ p H1, H p = none → Ex H H1 → H1 p = some (.lst xs) → D.nx σ (upd H1 a (.ins C dx (putF f (.ref p) fs)))) : sFld K ta tv f D σ H :=
  hv H (Ex.refl H) _ fun p H1 hp e1 h1 => ha H1 e1 _ fun H2 e2 => ⟨a, C, dx, fs, rfl, e2 _ _ (e1 _ _ ho), hc, hn, hl, q p H2 hp (e1.trans e2) (e2 _ _ h1)⟩
section
variable {tz : TS}
theorem q_fld (hv : Ev tv σ H y) (ha : Ev ta σ H (.ref a)) (ho : H a = some (.ins C dx fs)) (hc : Cls K C) (hn : NoAttr K C f) (hl : fs.length < 1000) (q : ∀ H1, Ex H H1 → tz D σ (upd H1 a (.ins C dx (putF f y fs)))) : tSeq (sFld K ta tv f) tz D σ H := s_fld (D := { D with nx := tz D }) hv ha ho hc hn hl q
theorem q_fldL (hv : EvL tv σ H xs) (ha : Ev ta σ H (.ref a)) (ho : H a = some (.ins C dx fs)) (hc : Cls K C) (hn : NoAttr K C f) (hl : fs.length < 1000) (q : ∀ p H1, H p = none → Ex H H1 → H1 p = some (.lst xs) → tz D σ (upd H1 a (.ins C dx (putF f (.ref p) fs)))) : tSeq (sFld K ta tv f) tz D σ H := s_fldL (D := { D with nx := tz D }) hv ha ho hc hn hl q
end
/-- a + b of lists -/
theorem el_cat {xs ys : List V} (ha : EvL ta σ H xs) (hb : EvL tb σ H ys) (hz : xs.length + ys.length ≤ sizeLine) : EvL (tOp rCat ta tb) σ H (xs ++ ys) := fun H1 e Q q =>
  ha H1 e _ fun p H2 hp e2 h2 => hb H2 (e.trans e2) _ fun r H3 hr e3 h3 => ⟨p, r, xs, ys, rfl, rfl, e3 _ _ h2, h3, hz, fun l hl => q l _ (fresh_back (e2.trans e3) hl) ((e2.trans e3).trans (Ex.new hl)) upd_same⟩
/-- the same where both stand -/
theorem el_catV {xs ys : List V} {p r : Addr} (ha : Ev ta σ H (.ref p)) (hb : Ev tb σ H (.ref r)) (h1 : H p = some (.lst xs)) (h2 : H r = some (.lst ys)) (hz : xs.length + ys.length ≤ sizeLine) : EvL (tOp rCat ta tb) σ H (xs ++ ys) := fun H1 e Q q =>
  ha H1 e _ fun H2 e2 => hb H2 (e.trans e2) _ fun H3 e3 => ⟨p, r, xs, ys, rfl, rfl, e3 _ _ (e2 _ _ (e _ _ h1)), e3 _ _ (e2 _ _ (e _ _ h2)), hz, fun l hl => q l _ (fresh_back (e2.trans e3) hl) ((e2.trans e3).trans (Ex.new hl)) upd_same⟩
theorem el_catVL {xs ys : List V} {p : Addr} (ha : Ev ta σ H (.ref p)) (hb : EvL tb σ H ys) (h1 : H p = some (.lst xs)) (hz : xs.length + ys.length ≤ sizeLine) : EvL (tOp rCat ta tb) σ H (xs ++ ys) := fun H1 e Q q =>
  ha H1 e _ fun H2 e2 => hb H2 (e.trans e2) _ fun r H3 hr e3 h3 => ⟨p, r, xs, ys, rfl, rfl, e3 _ _ (e2 _ _ (e _ _ h1)), h3, hz, fun l hl => q l _ (fresh_back (e2.trans e3) hl) ((e2.trans e3).trans (Ex.new hl)) upd_same⟩
theorem el_catLV {xs ys : List V} {r : Addr} (ha : EvL ta σ H xs) (hb : Ev tb σ H (.ref r)) (h2 : H r = some (.lst ys)) (hz : xs.length + ys.length ≤ sizeLine) : EvL (tOp rCat ta tb) σ H (xs ++ ys) := fun H1 e Q q =>
  ha H1 e _ fun p H2 hp e2 h1 => hb H2 (e.trans e2) _ fun H3 e3 => ⟨p, r, xs, ys, rfl, rfl, e3 _ _ h1, e3 _ _ (e2 _ _ (e _ _ h2)), hz, fun l hl => q l _ (fresh_back (e2.trans e3) hl) ((e2.trans e3).trans (Ex.new hl)) upd_same⟩
/-- [x] * k -/
theorem el_rep {xs : List V} {k : Nat} (ha : EvL ta σ H xs) (hb : Ev tb σ H (.int (k : Int))) (hk : k < 100000) (hz : xs.length * k ≤ sizeLine) : EvL (tOp rRep ta tb) σ H (List.replicate k xs).flatten := fun H1 e Q q =>
  ha H1 e _ fun p H2 hp e2 h1 => hb H2 (e.trans e2) _ fun H3 e3 => ⟨p, (k : Int), xs, rfl, rfl, e3 _ _ h1, by omega, by omega, hz, fun l hl => q l _ (fresh_back (e2.trans e3) hl) ((e2.trans e3).trans (Ex.new hl)) upd_same⟩
theorem flat_rep (x : V) : ∀ k, (List.replicate k [x]).flatten = List.replicate k x
  | 0 => rfl
  | k + 1 => by
    rw [List.replicate_succ, List.replicate_succ, List.flatten_cons, flat_rep x k]
    rfl
/-- len -/
theorem ev_lenS {p : Addr} {xs : List V} {n : Int} (ha : Ev ta σ H (.ref p)) (h : SqL K H p xs) (e : (xs.length : Int) = n) : Ev (tCB (rLenS K) (tCons ta tNil)) σ H (.int n) := by
  subst e
  exact ev_len ha h
/-- xor of numbers -/
theorem xor_nat (i j : Nat) : Builtin.bitXor (i : Int) (j : Int) = ((i ^^^ j : Nat) : Int) := by
  rw [Bits.bitXor_pp (by omega) (by omega)]
  rfl
theorem ev_xor {i j : Nat} (ha : Ev ta σ H (.int (i : Int))) (hb : Ev tb σ H (.int (j : Int))) : Ev (tOp (rI0 fun i j => .int (Builtin.bitXor i j)) ta tb) σ H (.int ((i ^^^ j : Nat) : Int)) :=
  ev_is (ev_op ha hb rv_I0) (congrArg V.int (xor_nat i j))
end
/-! loops over pairs -/
section
variable {K : PySem.W.Frag} {σ : L2.St} {H H' : Hp} {te : TE} {D : Ends} {tu : TS}
theorem s_forE {a : Addr} {xs : List V} {ta : TA} {i j : Nat} (h : EvA ta σ H [.ref a]) (hx : SqL K H a xs) (Pv : Nat → L2.St → Hp → Prop) (h0 : ∀ H1, Ex H H1 → Pv 0 σ H1) (hl : ∀ n σ' H', n ≤ xs.length → Pv n σ' H' → SqL K H' a xs)
    (hs : ∀ n x σ' H' H2, xs[n]? = some x → Pv n σ' H' → Ex H' H2 → tu { D with nx := Pv (n + 1), ct := Pv (n + 1), bk := D.nx } ((σ'.set i (some (.int (n : Int)))).set j (some x)) H2) (hd : ∀ σ' H', Pv xs.length σ' H' → D.nx σ' H') :
    tFor (iEnum K ta) (gTup K 2 (gCons (gName i) (gCons (gName j) gNil))) tu D σ H :=
  h H (Ex.refl H) _ fun H1 e => ⟨a, xs, rfl, ex_l e hx, fun n m σ' H' => n + m = xs.length ∧ Pv n σ' H', ⟨xs.length, Nat.zero_add _, h0 H1 e⟩, fun n m σ' H' ⟨hn, p⟩ => by
    have hA := hl n σ' H' (by omega) p
    by_cases hi : n < xs.length
    · have hg : xs[n]? = some xs[n] := List.getElem?_eq_getElem hi
      refine .inr ⟨⟨xs, _, hA, hg⟩, Pv (n + 1), fun σ2 H2 q => ⟨m - 1, by omega, by omega, q⟩, fun x H2 hy => ?_⟩
      obtain ⟨T, y, rfl, nT, rfl, f⟩ := hy
      exact ⟨T, _, rfl, st_of upd_same, rfl, _, _, rfl, _, _, rfl, rfl, hs n y σ' H' _ (f xs hA) p (Ex.new nT)⟩
    · refine .inl ⟨⟨xs, hA, by omega⟩, hd σ' H' ?_⟩
      have e2 : n = xs.length := by omega
      rw [← e2]
      exact p⟩
theorem s_forZ {a b : Addr} {xs ys : List V} {ta : TA} {i j : Nat} (h : EvA ta σ H [.ref a, .ref b]) (hx : SqL K H a xs) (hy : SqL K H b ys) (Pv : Nat → L2.St → Hp → Prop) (h0 : ∀ H1, Ex H H1 → Pv 0 σ H1)
    (hl : ∀ n σ' H', Pv n σ' H' → SqL K H' a xs ∧ SqL K H' b ys)
    (hs : ∀ n x y σ' H' H2, xs[n]? = some x → ys[n]? = some y → Pv n σ' H' → Ex H' H2 → tu { D with nx := Pv (n + 1), ct := Pv (n + 1), bk := D.nx } ((σ'.set i (some x)).set j (some y)) H2) (hd : ∀ σ' H', Pv (min xs.length ys.length) σ' H' → D.nx σ' H') :
    tFor (iZip K ta) (gTup K 2 (gCons (gName i) (gCons (gName j) gNil))) tu D σ H :=
  h H (Ex.refl H) _ fun H1 e => ⟨a, b, xs, ys, rfl, ex_l e hx, ex_l e hy, fun n m σ' H' => n + m = min xs.length ys.length ∧ Pv n σ' H', ⟨min xs.length ys.length, Nat.zero_add _, h0 H1 e⟩, fun n m σ' H' ⟨hn, p⟩ => by
    obtain ⟨hA, hB⟩ := hl n σ' H' p
    by_cases hi : n < min xs.length ys.length
    · have h1 : n < xs.length := by omega
      have h2 : n < ys.length := by omega
      refine .inr ⟨⟨xs, ys, _, _, hA, hB, List.getElem?_eq_getElem h1, List.getElem?_eq_getElem h2⟩, Pv (n + 1), fun σ2 H2 q => ⟨m - 1, by omega, by omega, q⟩, fun x H2 hy => ?_⟩
      obtain ⟨T, u, w, rfl, nT, rfl, f, g⟩ := hy
      exact ⟨T, _, rfl, st_of upd_same, rfl, _, _, rfl, _, _, rfl, rfl, hs n u w σ' H' _ (f xs hA) (g ys hB) p (Ex.new nT)⟩
    · refine .inl ⟨⟨xs, ys, hA, hB, by omega⟩, hd σ' H' ?_⟩
      have e2 : n = min xs.length ys.length := by omega
      rw [← e2]
      exact p⟩
theorem s_forV {a : Addr} {xs : List V} {ta : TA} {j : Nat} (h : EvA ta σ H [.ref a]) (hx : SqL K H a xs) (Pv : Nat → L2.St → Hp → Prop) (h0 : ∀ H1, Ex H H1 → Pv 0 σ H1) (hl : ∀ n σ' H', Pv n σ' H' → SqL K H' a xs)
    (hs : ∀ n x σ' H', n < xs.length → xs[xs.length - 1 - n]? = some x → Pv n σ' H' → tu { D with nx := Pv (n + 1), ct := Pv (n + 1), bk := D.nx } (σ'.set j (some x)) H') (hd : ∀ σ' H', Pv xs.length σ' H' → D.nx σ' H') :
    tFor (iRev K ta) (gName j) tu D σ H :=
  h H (Ex.refl H) _ fun H1 e => ⟨a, xs, rfl, ex_l e hx, fun n m σ' H' => n + m = xs.length ∧ Pv n σ' H', ⟨xs.length, Nat.zero_add _, h0 H1 e⟩, fun n m σ' H' ⟨hn, p⟩ => by
    have hA := hl n σ' H' p
    by_cases hi : n < xs.length
    · have h1 : xs.length - 1 - n < xs.length := by omega
      refine .inr ⟨⟨hi, xs, _, hA, List.getElem?_eq_getElem h1⟩, Pv (n + 1), fun σ2 H2 q => ⟨m - 1, by omega, by omega, q⟩, fun x H2 hy => ?_⟩
      obtain ⟨rfl, f⟩ := hy
      exact hs n x σ' _ hi (f xs hA) p
    · refine .inl ⟨by show xs.length ≤ n; omega, hd σ' H' ?_⟩
      have e2 : n = xs.length := by omega
      rw [← e2]
      exact p⟩
section
variable {tz : TS}
theorem q_forE {a : Addr} {xs : List V} {ta : TA} {i j : Nat} (h : EvA ta σ H [.ref a]) (hx : SqL K H a xs) (Pv : Nat → L2.St → Hp → Prop) (h0 : ∀ H1, Ex H H1 → Pv 0 σ H1) (hl : ∀ n σ' H', n ≤ xs.length → Pv n σ' H' → SqL K H' a xs)
    (hs : ∀ n x σ' H' H2, xs[n]? = some x → Pv n σ' H' → Ex H' H2 → tu { D with nx := Pv (n + 1), ct := Pv (n + 1), bk := tz D } ((σ'.set i (some (.int (n : Int)))).set j (some x)) H2) (hd : ∀ σ' H', Pv xs.length σ' H' → tz D σ' H') :
    tSeq (tFor (iEnum K ta) (gTup K 2 (gCons (gName i) (gCons (gName j) gNil))) tu) tz D σ H := s_forE (D := { D with nx := tz D }) h hx Pv h0 hl hs hd
theorem q_forZ {a b : Addr} {xs ys : List V} {ta : TA} {i j : Nat} (h : EvA ta σ H [.ref a, .ref b]) (hx : SqL K H a xs) (hy : SqL K H b ys) (Pv : Nat → L2.St → Hp → Prop) (h0 : ∀ H1, Ex H H1 → Pv 0 σ H1)
    (hl : ∀ n σ' H', Pv n σ' H' → SqL K H' a xs ∧ SqL K H' b ys)
    (hs : ∀ n x y σ' H' H2, xs[n]? = some x → ys[n]? = some y → Pv n σ' H' → Ex H' H2 → tu { D with nx := Pv (n + 1), ct := Pv (n + 1), bk := tz D } ((σ'.set i (some x)).set j (some y)) H2) (hd : ∀ σ' H', Pv (min xs.length ys.length) σ' H' → tz D σ' H') :
    tSeq (tFor (iZip K ta) (gTup K 2 (gCons (gName i) (gCons (gName j) gNil))) tu) tz D σ H := s_forZ (D := { D with nx := tz D }) h hx hy Pv h0 hl hs hd
theorem q_forV {a : Addr} {xs : List V} {ta : TA} {j : Nat} (h : EvA ta σ H [.ref a]) (hx : SqL K H a xs) (Pv : Nat → L2.St → Hp → Prop) (h0 : ∀ H1, Ex H H1 → Pv 0 σ H1) (hl : ∀ n σ' H', Pv n σ' H' → SqL K H' a xs)
    (hs : ∀ n x σ' H', n < xs.length → xs[xs.length - 1 - n]? = some x → Pv n σ' H' → tu { D with nx := Pv (n + 1), ct := Pv (n + 1), bk := tz D } (σ'.set j (some x)) H') (hd : ∀ σ' H', Pv xs.length σ' H' → tz D σ' H') :
    tSeq (tFor (iRev K ta) (gName j) tu) tz D σ H := s_forV (D := { D with nx := tz D }) h hx Pv h0 hl hs hd
end
/-- [.. for x, y in zip(a, b)] -/
theorem el_lcZ {a b : Addr} {xs ys : List V} {ta : TA} {i j : Nat} {vs : List Nat} (f : Nat → V) (h : EvA ta σ H [.ref a, .ref b]) (hx : SqL K H a xs) (hy : SqL K H b ys) (hz : min xs.length ys.length ≤ 40000)
    (hw : ∀ x y, wipe (((wipe σ vs).set i (some x)).set j (some y)) vs = wipe σ vs)
    (he : ∀ (n : Nat) (x y : V) H1, Ex H H1 → xs[n]? = some x → ys[n]? = some y → Ev te (((wipe σ vs).set i (some x)).set j (some y)) H1 (f n)) :
    EvL (tLc (iZip K ta) (gTup K 2 (gCons (gName i) (gCons (gName j) gNil))) tYes te vs) σ H ((List.range (min xs.length ys.length)).map f) := fun H0 e Q q =>
  h H0 e _ fun H1 e1 => ⟨a, b, xs, ys, rfl, ex_l (e.trans e1) hx, ex_l (e.trans e1) hy, fun Dl hD => ⟨fun n m H' => n + m = min xs.length ys.length ∧ H1 Dl = none ∧ Ex H1 H' ∧ H' Dl = some (.lst ((List.range n).map f)),
    ⟨min xs.length ys.length, Nat.zero_add _, hD, Ex.new hD, upd_same⟩, fun n m H' ⟨hn, _, p, pd⟩ => by
    have hA : SqL K H' a xs := ex_l ((e.trans e1).trans p) hx
    have hB : SqL K H' b ys := ex_l ((e.trans e1).trans p) hy
    by_cases hi : n < min xs.length ys.length
    · have h1 : n < xs.length := by omega
      have h2 : n < ys.length := by omega
      refine .inr ⟨⟨xs, ys, _, _, hA, hB, List.getElem?_eq_getElem h1, List.getElem?_eq_getElem h2⟩, fun H2 => H1 Dl = none ∧ Ex H1 H2 ∧ H2 Dl = some (.lst ((List.range (n + 1)).map f)), fun H2 q => ⟨m - 1, by omega, by omega, q⟩, fun x H2 hy => ?_⟩
      obtain ⟨T, u, w, rfl, nT, rfl, f1, f2⟩ := hy
      refine ⟨T, _, rfl, st_of upd_same, rfl, _, _, rfl, _, _, rfl, rfl, hw u w, ?_⟩
      have e3 : Ex H1 (upd H' T (.tup [u, w])) := p.trans (Ex.new nT)
      refine he n u w H (Ex.refl H) (f1 xs hA) (f2 ys hB) _ ((e.trans e1).trans e3) _ fun H4 e4 => ?_
      have pd4 : H4 Dl = some (.lst ((List.range n).map f)) := e4 _ _ ((Ex.new nT) _ _ pd)
      refine ⟨_, pd4, ?_, hD, (e3.trans e4).mut hD, ?_⟩
      · rw [List.length_map, List.length_range]
        exact sz_lt (by omega)
      · rw [upd_same, List.range_succ, List.map_append]
        rfl
    · have e2 : n = min xs.length ys.length := by omega
      subst e2
      exact .inl ⟨⟨xs, ys, hA, hB, by omega⟩, q Dl H' (fresh_back e1 hD) (e1.trans p) pd⟩⟩⟩
theorem given_all (n : Nat) (v : Nat → V) : given n (fun _ => true) v = (List.range n).map v := by
  unfold given
  rw [List.filter_eq_self.mpr (fun _ _ => rfl)]
theorem et_yes : EvT tYes σ H true := fun H1 _ _ q => q H1 (Ex.refl H1)
end
theorem lk_here {k : Str} {v : V} {r : List (Str × V)} : List.lookup k ((k, v) :: r) = some v := by
  have e : (k == k) = true := beq_self_eq_true k
  simp only [List.lookup, e]
theorem lk_past {k g : Str} {v : V} {r : List (Str × V)} (h : (k == g) = false) : List.lookup k ((g, v) :: r) = List.lookup k r := by
  simp only [List.lookup, h]
theorem put_here {f : Str} {v x : V} {r : List (Str × V)} : putF f v ((f, x) :: r) = (f, v) :: r := if_pos rfl
theorem put_past {f g : Str} {v x : V} {r : List (Str × V)} (h : ¬ g = f) : putF f v ((g, x) :: r) = (g, x) :: putF f v r := if_neg h
/-- the context of a body is over K -/
theorem cxK {CX : CXT} {P : Program} {w : World} {K : PySem.W.Frag} {mg : Str → Option Value} {base : Heap} {N : List Str} {qual : Str} {scope : Scope} {f : Addr} {cd : Value} {A : Around} {outer : List Env} {s : Shared} {H : Hp} {E : XK} : (cxOf CX P w K mg base N qual scope f cd A outer s H E).nox.K = K := rfl
end Sl

namespace Sl
open PySem PySem.Spec PyProof.Rows L2 Evl
end Sl
namespace Sl
open PySem PySem.Spec PyProof.Rows L2 Evl
/-- what the top has written -/
structure Txt (K : PySem.W.Frag) (mg : Str → Option Value) : Prop where
  g_ONES : ∃ t, mg "ONES" = some (.int 4294967295 t)
  g_POLYNOMIAL : ∃ t, mg "POLYNOMIAL" = some (.int 2197175160 t)
  g_NOT_SO : ∃ t, mg "NOT_SO" = some (.int (-1) t)
  g_MOST_SUMMED : ∃ t, mg "MOST_SUMMED" = some (.int 65536 t)
  b_range : mg "range" = none
  b_len : mg "len" = none
def top (i : Nat) : Stmt := PySem.Challenge.pw_sureline_s05_sum_of.main.body.getD i (.Pass ⟨0, 0, 0, 0⟩)
abbrev s_halved : Stmt := top 3
abbrev s_crc_of : Stmt := top 4
abbrev s_sum_of : Stmt := top 8
end Sl
/-! ### CRC-32C -/
namespace Sl
open PySem PySem.Spec PyProof.Rows L2 Evl
def crcTurn (c x : Nat) : Nat := (List.range 8).foldl (fun c _ => Fm11.sumBit c) (c ^^^ x)
theorem sumBit_lt {c : Nat} (h : c < 2 ^ 32) : Fm11.sumBit c < 2 ^ 32 := by
  unfold Fm11.sumBit
  split
  · exact Nat.xor_lt_two_pow (by omega) (by decide)
  · omega
theorem bits_lt : ∀ (l : List Nat) (c : Nat), c < 2 ^ 32 → l.foldl (fun c _ => Fm11.sumBit c) c < 2 ^ 32
  | [], _, h => h
  | _ :: l, c, h => by
    rw [List.foldl_cons]
    exact bits_lt l _ (sumBit_lt h)
theorem crcTurn_lt {c x : Nat} (h : c < 2 ^ 32) (hx : x < 256) : crcTurn c x < 2 ^ 32 := bits_lt _ _ (Nat.xor_lt_two_pow h (by omega))
theorem crc_lt : ∀ (l : List Nat) (c : Nat), (∀ x ∈ l, x < 256) → c < 2 ^ 32 → l.foldl crcTurn c < 2 ^ 32
  | [], _, _, h => h
  | x :: l, c, hl, h => by
    rw [List.foldl_cons]
    exact crc_lt l _ (fun y hy => hl y (List.mem_cons_of_mem _ hy)) (crcTurn_lt h (hl x List.mem_cons_self))
theorem crc_sum (l : List Nat) : Fm11.sum l = 2 ^ 32 - 1 - l.foldl crcTurn (2 ^ 32 - 1) := rfl
theorem flip32 {c : Nat} (h : c < 2 ^ 32) : c ^^^ 4294967295 = 2 ^ 32 - 1 - c := by
  apply Nat.eq_of_testBit_eq
  intro i
  have e1 : 2 ^ 32 - (c + 1) = 2 ^ 32 - 1 - c := by omega
  have e3 := Nat.testBit_two_pow_sub_succ (x := c) (n := 32) h i
  rw [e1] at e3
  have e2 : (4294967295 : Nat).testBit i = decide (i < 32) := Nat.testBit_two_pow_sub_one 32 i
  rw [e3, Nat.testBit_xor, e2]
  by_cases hi : i < 32
  · rw [decide_eq_true hi]
    cases c.testBit i <;> rfl
  · rw [decide_eq_false hi, Nat.testBit_lt_two_pow (Nat.lt_of_lt_of_le h (Nat.pow_le_pow_right (by decide) (by omega)))]
    rfl
def spHalved : Sp := fun vs H Q _ => ∃ n : Nat, vs = [.int (n : Int)] ∧ RetV (.int (Fm11.sumBit n : Nat)) H Q
def spCrc (K : PySem.W.Frag) : Sp := fun vs H Q _ => ∃ (a : Addr) (ns : List Nat), vs = [.ref a] ∧ SqL K H a (vn ns) ∧ (∀ n ∈ ns, n < 256) ∧ RetV (.int (Fm11.sum ns : Nat)) H Q
section
variable {P : Program} {w : World} {K : PySem.W.Frag} {mg : Str → Option Value} {base : Heap} 
theorem sv_halved {n : Nat} {H : Hp} : SpV spHalved [.int (n : Int)] H (.int (Fm11.sumBit n : Nat)) := fun _ _ _ k _ => ⟨n, rfl, k⟩
theorem sv_crc {ns : List Nat} {H : Hp} {a : Addr} (h : SqL K H a (vn ns)) (hb : ∀ n ∈ ns, n < 256) : SpV (spCrc K) [.ref a] H (.int (Fm11.sum ns : Nat)) := fun _ e _ k _ => ⟨a, ns, rfl, ex_l e h, hb, k⟩
theorem sc_halved : FnScope ["number"] ["number"] (defScope s_halved) := ⟨rfl, rfl, rfl, by decide +kernel, rfl, by decide +kernel, by decide +kernel⟩
theorem ok_halved {f : Addr} {fd : FuncData} (F : Fun K "halved" "halved" s_halved f fd) (T : Txt K mg ) : FnOk P w K mg base CX0 1 f fd ["number"] spHalved := by
  refine F.ok sc_halved (fun vs H Q E h => ?_) (fun cdv A outer s H vs Q E hr h => ?_)
  · obtain ⟨n, rfl, _⟩ := h
    rfl
  · obtain ⟨n, rfl, k⟩ := h
    refine ⟨_, (pss_cons (ps_if (pt_cmpR op_eq (pe_op op_mod (pv 0) pe_int) pe_int (nomark _))
      (pss_one (ps_ret (pe_op op_xor (pe_op op_shr (pv 0) pe_int) (pe_gI rfl T.g_POLYNOMIAL)))) pss_nil)
      (pss_one (ps_ret (pe_op op_shr (pv 0) pe_int)))), ?_⟩
    have e1 : ((n : Int) / 2 ^ (1 : Int).toNat) = ((n / 2 : Nat) : Int) := by
      show (n : Int) / 2 ^ 1 = _
      omega
    refine q_when (b := decide (V.int ((n : Int) % 2) = V.int 1)) (et_test (ev_op (ev_op (ev_var rfl) ev_c (rv_I (by decide))) ev_c (rv_eq rfl))) (fun hc H2 e2 => ?_) (fun hc H2 e2 => ?_)
    · have hn : n % 2 = 1 := by
        have := V.int.inj (of_decide_eq_true hc)
        omega
      refine s_ret (ev_xor (i := n / 2) (j := 2197175160) (ev_is (ev_op (ev_var rfl) ev_c (rv_I (by decide))) (congrArg V.int e1)) ev_c) fun H3 e3 => ?_
      have z := k H3 (e2.trans e3)
      unfold Fm11.sumBit at z
      rw [if_pos hn] at z
      exact z
    · have hn : ¬ n % 2 = 1 := fun q => of_decide_eq_false hc (by rw [show (n : Int) % 2 = 1 by omega])
      refine s_ret (ev_is (ev_op (ev_var rfl) ev_c (rv_I (by decide))) (congrArg V.int e1)) fun H3 e3 => ?_
      have z := k H3 (e2.trans e3)
      unfold Fm11.sumBit at z
      rw [if_neg hn] at z
      exact z
theorem sc_crc_of : FnScope ["some", "found", "byte", "k"] ["some"] (defScope s_crc_of) := ⟨rfl, rfl, rfl, by decide +kernel, rfl, by decide +kernel, by decide +kernel⟩
theorem ok_crc_of {f : Addr} {fd : FuncData} (F : Fun K "crc_of" "crc_of" s_crc_of f fd) (T : Txt K mg ) (c_halved : Ca P w K mg base 1 "halved" spHalved) : FnOk P w K mg base CX0 2 f fd ["some"] (spCrc K) := by
  refine F.ok sc_crc_of (fun vs H Q E h => ?_) (fun cdv A outer s H vs Q E hr h => ?_)
  · obtain ⟨a, ns, rfl, _⟩ := h
    rfl
  · obtain ⟨a, ns, rfl, hS, hb, k⟩ := h
    refine ⟨_, (pss_cons (ps_set (i := 1) sc_crc_of.nd rfl (Or.inl rfl) (pe_gI rfl T.g_ONES))
      (pss_cons (ps_for PassesOwn.never rfl (pi_list (pv 0)) (pg_name (i := 2) sc_crc_of.nd rfl (Or.inl rfl))
      (pss_cons (ps_set (i := 1) sc_crc_of.nd rfl (Or.inl rfl) (pe_op op_xor (pv 1) (pv 2)))
      (pss_one (ps_for PassesOwn.never rfl (pi_range1 (by rfl) T.b_range (pa_cons pe_int pa_nil)) (pg_name (i := 3) sc_crc_of.nd rfl (Or.inl rfl))
      (pss_one (ps_set (i := 1) sc_crc_of.nd rfl (Or.inl rfl) (pc c_halved hr (by decide) rfl (pa_cons (pv 1) pa_nil))))))))
      (pss_one (ps_ret (pe_op op_xor (pv 1) (pe_gI rfl T.g_ONES)))))), ?_⟩
    refine q_asg ev_c fun H1 e1 => ?_
    refine q_forLn (xs := vn ns) (ev_var rfl) (ex_l e1 hS) (fun i σ H' => ∃ v2 v3 : Option V, σ = [some (.ref a), some (.int ((ns.take i).foldl crcTurn 4294967295 : Nat)), v2, v3] ∧ Ex H H')
      (fun H2 e2 => ⟨none, none, rfl, e1.trans e2⟩) (fun i σ H' _ ⟨_, _, _, e⟩ => ex_l e hS) ?_ ?_
    · rintro i x σ H' hx ⟨v2, v3, rfl, e⟩
      obtain ⟨n, hn, rfl⟩ := of_vn_get hx
      refine q_asg (ev_xor (ev_var rfl) (ev_var rfl)) fun H3 e3 => ?_
      refine s_forR1 (ea_cons ev_c ea_nil) (by decide) (fun j σ H' => ∃ v3 : Option V, σ = [some (.ref a), some (.int ((List.range j).foldl (fun c _ => Fm11.sumBit c) (((ns.take i).foldl crcTurn 4294967295) ^^^ n) : Nat)), some (.int (n : Int)), v3] ∧ Ex H H')
        (fun H4 e4 => ⟨_, rfl, (e.trans e3).trans e4⟩) ?_ ?_
      · rintro j σ H5 _ ⟨v3', rfl, e5⟩
        refine s_asg (ev_pc (ea_cons (ev_var rfl) ea_nil) sv_halved) fun H6 e6 => ⟨some (.int (j : Int)), ?_, e5.trans e6⟩
        rw [List.range_succ, List.foldl_append]
        rfl
      · rintro σ H5 ⟨v3', rfl, e5⟩
        refine ⟨some (.int (n : Int)), v3', ?_, e5⟩
        rw [take_more hn, List.foldl_append]
        rfl
    · rintro σ H' ⟨v2, v3, rfl, e⟩
      rw [vn_len, List.take_length]
      refine s_ret (ev_xor (j := 4294967295) (ev_var rfl) ev_c) fun H3 e3 => ?_
      rw [flip32 (crc_lt ns _ hb (by decide))]
      exact k H3 (e.trans e3)
end
end Sl

/-! ### a request of one list of bytes -/
namespace Sl
open PySem PySem.Spec PyProof.Rows L2 Evl
open PySem.W (Codec WData)
/-- bytes as the words have them -/
def ni (l : List Nat) : List Int := l.map fun (n : Nat) => (n : Int)
theorem vn_ni (l : List Nat) : (ni l).map V.int = vn l := by
  unfold ni vn
  rw [List.map_map]
  rfl
theorem ni_len (l : List Nat) : (ni l).length = l.length := by
  unfold ni
  rw [List.length_map]
theorem nats_ni (l : List Nat) : Fm11Neutral.nats (ni l) = l := by
  unfold Fm11Neutral.nats ni
  rw [List.map_map]
  have e : (Int.toNat ∘ fun (n : Nat) => (n : Int)) = id := rfl
  rw [e, List.map_id]
theorem bytes_of : ∀ {l : List Int}, l.all (Codec.inInt 0 255) = true → ∃ ns : List Nat, l = ni ns ∧ ∀ n ∈ ns, n < 256
  | [], _ => ⟨[], rfl, fun _ h => absurd h (by simp)⟩
  | x :: l, h => by
    rw [List.all_cons, Bool.and_eq_true] at h
    obtain ⟨ns, rfl, hn⟩ := bytes_of h.2
    have q := Codec.inInt_iff.mp h.1
    obtain ⟨m, rfl⟩ := Int.eq_ofNat_of_zero_le q.1
    refine ⟨m :: ns, rfl, fun n hm => ?_⟩
    rcases List.mem_cons.mp hm with e | e
    · omega
    · exact hn n e
theorem all_byte {ns : List Nat} (h : ∀ n ∈ ns, n < 256) : ns.all Fm11.isByte = true := List.all_eq_true.mpr fun n hn => decide_eq_true (h n hn)
theorem bytesOk_iff {ns : List Nat} {most : Nat} (h : ∀ n ∈ ns, n < 256) : Fm11.bytesOk ns most = decide (ns.length ≤ most) := by
  unfold Fm11.bytesOk
  rw [all_byte h, Bool.true_and]
def sp1 (due : List Int → List Int) (K : PySem.W.Frag) : Sp := fun vs H Q _ => ∃ (a : Addr) (ns : List Nat), vs = [.ref a] ∧ SqL K H a (vn ns) ∧ (∀ n ∈ ns, n < 256) ∧ ns.length ≤ 66000 ∧
  ∀ (H' : Hp) (p : Addr), H' p = some (.lst ((due (ni ns)).map V.int)) → Q (.ref p) H'
theorem end1 {K : PySem.W.Frag} {H : Hp} {xs : List V} {a : Codec.denoteAll PySem.Challenge.fa_sureline_s05_sum_of} (hwi : Codec.withinAll PySem.Challenge.fa_sureline_s05_sum_of a = true) (hx : DwAll K H xs (Codec.encAll PySem.Challenge.fa_sureline_s05_sum_of a)) :
    sp1 PyFm11.sum_of K xs H (fun v H' => Dw K H' v (PySem.Challenge.fr_sureline_s05_sum_of.enc (Codec.app PySem.Challenge.fa_sureline_s05_sum_of PyFm11.sum_of a))) fun _ _ _ => False := by
  obtain ⟨l, u⟩ := a
  cases hx with
  | cons h1 h2 =>
    cases h2
    cases h1 with
    | lst hs ha =>
      have e := ints_dw l _ ha
      subst e
      have q : ((Codec.inLen 0 66000 l && l.all (Codec.inInt 0 255)) && true) = true := hwi
      rw [Bool.and_eq_true, Bool.and_eq_true] at q
      obtain ⟨ns, rfl, hn⟩ := bytes_of q.1.2
      have ql := (Codec.inNat_iff.mp q.1.1).2
      rw [vn_ni] at hs
      exact ⟨_, ns, rfl, hs, hn, by rw [← ni_len]; exact ql, fun H' p hp => .lst (SqL.of hp) (dw_ints _)⟩
end Sl

/-! ### codes.sum_of -/
namespace Sl
open PySem PySem.Spec PyProof.Rows L2 Evl
theorem due_sum {ns : List Nat} (h : ∀ n ∈ ns, n < 256) : PyFm11.sum_of (ni ns) = if 65536 < ns.length then [-1] else [((Fm11.sum ns : Nat) : Int)] := by
  show (let a := (if Fm11.bytesOk (Fm11Neutral.nats (ni ns)) 65536 = true then Fm11.says (Fm11.sum (Fm11Neutral.nats (ni ns))) else Fm11.says (-1)); a.code :: a.rows.flatMap fun r => ((r.length : Nat) : Int) :: Fm11Neutral.ints r) = _
  rw [nats_ni, bytesOk_iff h]
  by_cases c : 65536 < ns.length
  · rw [if_pos c, if_neg (by rw [decide_eq_true_eq]; omega)]
    rfl
  · rw [if_neg c, if_pos (by rw [decide_eq_true_eq]; omega)]
    rfl
section
variable {P : Program} {w : World} {K : PySem.W.Frag} {mg : Str → Option Value} {base : Heap} 
theorem sc_sum_of : FnScope ["octets"] ["octets"] (defScope s_sum_of) := ⟨rfl, rfl, rfl, by decide +kernel, rfl, by decide +kernel, by decide +kernel⟩
theorem ok_sum_of {f : Addr} {fd : FuncData} (F : Fun K "sum_of" "sum_of" s_sum_of f fd) (T : Txt K mg ) (c_crc_of : Ca P w K mg base 2 "crc_of" (spCrc K)) : FnOk P w K mg base CX0 3 f fd ["octets"] (sp1 PyFm11.sum_of K) := by
  refine F.ok sc_sum_of (fun vs H Q E h => ?_) (fun cdv A outer s H vs Q E hr h => ?_)
  · obtain ⟨a, ns, rfl, _⟩ := h
    rfl
  · obtain ⟨a, ns, rfl, hS, hb, hl, k⟩ := h
    refine ⟨_, (pss_cons (ps_if (pt_cmpR op_gt (pe_callB call_len_seq (by rfl) T.b_len PySem.boot_len (pa_cons (pv 0) pa_nil)) (pe_gI rfl T.g_MOST_SUMMED) (nomark _))
      (pss_one (ps_ret (pe_lst (pa_cons (pe_gI rfl T.g_NOT_SO) pa_nil)))) pss_nil)
      (pss_one (ps_ret (pe_lst (pa_cons (pc c_crc_of hr (by decide) rfl (pa_cons (pv 0) pa_nil)) pa_nil))))), ?_⟩
    have due := due_sum hb
    refine q_when (b := decide ((65536 : Int) < (ns.length : Int))) (et_test (ev_op (ev_lenS (ev_var rfl) hS (by rw [vn_len])) ev_c rv_I0)) (fun hc H2 e2 => ?_) (fun hc H2 e2 => ?_)
    · have hc' : 65536 < ns.length := by
        have := of_decide_eq_true hc
        omega
      rw [if_pos hc'] at due
      refine s_retL (el_lst (ea_cons ev_c ea_nil) (by decide)) fun p H3 _ _ h3 => k H3 p ?_
      rw [h3, due]
      rfl
    · have hc' : ¬ 65536 < ns.length := by
        have := of_decide_eq_false hc
        omega
      rw [if_neg hc'] at due
      refine s_retL (el_lst (ea_cons (ev_pc (ea_cons (ev_var rfl) ea_nil) (sv_crc (ex_l e2 hS) hb)) ea_nil) (by show 1 ≤ 100000; decide)) fun p H3 _ _ h3 => k H3 p ?_
      rw [h3, due]
      rfl
end
end Sl

namespace Sl
open PySem PySem.Spec PyProof.Rows L2 Evl
theorem all_mk {P : Program} {w : World} {K : PySem.W.Frag} {h : Heap} {mg : Str → Option Value} {fa f0 f1 f2 : Addr} (X : K.In h) (G : h.Ns mainGlobals mg) (hfa : mg "sum_of" = some (.ref fa))
    {od0 an0 od1 an1 od2 an2 : Option Addr} {sl0 sl1 sl2 : Array (Option Value)} {oc0 kV0 dc0 pm0 cd0 ct0 oc1 kV1 dc1 pm1 cd1 ct1 oc2 kV2 dc2 pm2 cd2 ct2 : Value} {t_ONES t_POLYNOMIAL t_NOT_SO t_MOST_SUMMED : Tok}
    (a0 : PySem.W.nsIn K mainGlobals "halved" = some (some (.ref f0)))
    (l0 : K.lookup f0 = some ⟨oc0, od0, .func (PySem.W.fnOf "halved" "halved" (defArgs s_halved) (defBody s_halved) (defScope s_halved) .none kV0 dc0 pm0 an0 cd0 ct0), sl0⟩)
    (c0 : PySem.W.codeIn K cd0 "halved" = true)
    (k0 : PySem.W.keepIn K (.ref f0) = true)
    (a1 : PySem.W.nsIn K mainGlobals "crc_of" = some (some (.ref f1)))
    (l1 : K.lookup f1 = some ⟨oc1, od1, .func (PySem.W.fnOf "crc_of" "crc_of" (defArgs s_crc_of) (defBody s_crc_of) (defScope s_crc_of) .none kV1 dc1 pm1 an1 cd1 ct1), sl1⟩)
    (c1 : PySem.W.codeIn K cd1 "crc_of" = true)
    (k1 : PySem.W.keepIn K (.ref f1) = true)
    (a2 : PySem.W.nsIn K mainGlobals "sum_of" = some (some (.ref f2)))
    (l2 : K.lookup f2 = some ⟨oc2, od2, .func (PySem.W.fnOf "sum_of" "sum_of" (defArgs s_sum_of) (defBody s_sum_of) (defScope s_sum_of) .none kV2 dc2 pm2 an2 cd2 ct2), sl2⟩)
    (c2 : PySem.W.codeIn K cd2 "sum_of" = true)
    (k2 : PySem.W.keepIn K (.ref f2) = true)
    (g_ONES : PySem.W.nsIn K mainGlobals "ONES" = some (some (.int 4294967295 t_ONES)))
    (g_POLYNOMIAL : PySem.W.nsIn K mainGlobals "POLYNOMIAL" = some (some (.int 2197175160 t_POLYNOMIAL)))
    (g_NOT_SO : PySem.W.nsIn K mainGlobals "NOT_SO" = some (some (.int (-1) t_NOT_SO)))
    (g_MOST_SUMMED : PySem.W.nsIn K mainGlobals "MOST_SUMMED" = some (some (.int 65536 t_MOST_SUMMED)))
    (b_range : PySem.W.nsIn K mainGlobals "range" = some none)
    (b_len : PySem.W.nsIn K mainGlobals "len" = some none) :
    ∃ fd : FuncData, (∀ (s : Shared) (us : List Value), us.length = (["octets"] : List Str).length → BindsTo s fd ⟨us, []⟩ ((["octets"] : List Str).zip us)) ∧ ∀ base : Heap, K.In base → base.Ns mainGlobals mg → FnOk P w K mg base CX0 3 fa fd ["octets"] (sp1 PyFm11.sum_of K) := by
  have e := hfa.symm.trans (PySem.W.mg_of X G a2)
  cases e
  have T : Txt K mg  := ⟨⟨_, PySem.W.mg_of X G g_ONES⟩, ⟨_, PySem.W.mg_of X G g_POLYNOMIAL⟩, ⟨_, PySem.W.mg_of X G g_NOT_SO⟩, ⟨_, PySem.W.mg_of X G g_MOST_SUMMED⟩, PySem.W.mg_none_of X G b_range, PySem.W.mg_none_of X G b_len⟩
  have F0 := fun_mk (st := s_halved) l0 c0 k0
  have b0 := F0.binds (ps := ["number"]) fun _ _ _ _ _ _ us hl => match us, hl with | [_], _ => rfl
  have F1 := fun_mk (st := s_crc_of) l1 c1 k1
  have b1 := F1.binds (ps := ["some"]) fun _ _ _ _ _ _ us hl => match us, hl with | [_], _ => rfl
  have F2 := fun_mk (st := s_sum_of) l2 c2 k2
  have b2 := F2.binds (ps := ["octets"]) fun _ _ _ _ _ _ us hl => match us, hl with | [_], _ => rfl
  refine ⟨PySem.W.fnOf "sum_of" "sum_of" (defArgs s_sum_of) (defBody s_sum_of) (defScope s_sum_of) .none kV2 dc2 pm2 an2 cd2 ct2, fun s us hu => match us, hu with | [_], _ => .of_eq rfl, fun base _ _ => ?_⟩
  have c_halved : Ca P w K mg base 1 "halved" (spHalved) := ⟨f0, _, _, ok_halved F0 T, PySem.W.mg_of X G a0, k0, b0⟩
  have c_crc_of : Ca P w K mg base 2 "crc_of" (spCrc K) := ⟨f1, _, _, ok_crc_of F1 T c_halved, PySem.W.mg_of X G a1, k1, b1⟩
  exact ok_sum_of F2 T c_crc_of
end Sl
open PySem PySem.W PyProof.Rows
set_option maxRecDepth 100000 in
set_option maxHeartbeats 0 in
theorem PySem.Challenge.cw_sureline_s05_sum_of_holds : PySem.Challenge.rw_sureline_s05_sum_of.Holds := by
  w_on; k_headS; (case hw => exact ⟨[.list []], by decide +kernel, by decide +kernel⟩)
  k_fillS
  refine L2.walk_specK (r := PySem.Challenge.rw_sureline_s05_sum_of) (k := 3) (CX := L2.CX0) (ps := ["octets"]) (sp := Sl.sp1 PyFm11.sum_of) (by decide +kernel) rfl rfl ⟨rfl, by decide, by decide⟩ (fun w h Y => PySem.W.kIn_of Y) ?F ?S (fun _ _ _ _ z => z)
  case F =>
    intro w mg fa h Y KX G hmg
    refine' Sl.all_mk KX G hmg ?a0 ?l0 ?c0 ?k0 ?a1 ?l1 ?c1 ?k1 ?a2 ?l2 ?c2 ?k2 ?g_ONES ?g_POLYNOMIAL ?g_NOT_SO ?g_MOST_SUMMED ?b_range ?b_len
    (case a0 => k_is)
    (case l0 => k_is)
    (case c0 => k_is)
    (case k0 => k_is)
    (case a1 => k_is)
    (case l1 => k_is)
    (case c1 => k_is)
    (case k1 => k_is)
    (case a2 => k_is)
    (case l2 => k_is)
    (case c2 => k_is)
    (case k2 => k_is)
    (case g_ONES => k_is)
    (case g_POLYNOMIAL => k_is)
    (case g_NOT_SO => k_is)
    (case g_MOST_SUMMED => k_is)
    (case b_range => k_is)
    (case b_len => k_is)
  case S =>
    intro K H xs a hO hwi hask hx
    exact Sl.end1 hwi hx
#print axioms PySem.Challenge.cw_sureline_s05_sum_of_holds
