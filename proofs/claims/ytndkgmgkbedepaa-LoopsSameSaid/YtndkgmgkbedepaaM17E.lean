/- A row of loops folded: the document's pass, plain. Conditions: none. -/
import Derived.Test.YtndkgmgkbedepaaN17Y
namespace Go.Sx
open Go.Proofs
abbrev El := Int × Int × Fo
def Fo.els : Fo → List El
  | .nil => []
  | .cons t n b r => (t, n, b) :: r.els
def mkF : List El → Fo
  | [] => .nil
  | (t, n, b) :: l => .cons t n b (mkF l)
theorem els_mk : ∀ l, (mkF l).els = l
  | [] => rfl
  | (t, n, b) :: l => by simp only [mkF, Fo.els, els_mk l]
theorem mk_els : ∀ f : Fo, mkF f.els = f
  | .nil => rfl
  | .cons t n b r => by simp only [mkF, Fo.els, mk_els r]
theorem els_inj {f g : Fo} (h : f.els = g.els) : f = g := by rw [← mk_els f, h, mk_els]
theorem mkF_inj {f g : List El} (h : mkF f = mkF g) : f = g := by rw [← els_mk f, h, els_mk]
theorem els_app (g : Fo) : ∀ f : Fo, (f.app g).els = f.els ++ g.els
  | .nil => rfl
  | .cons t n b r => by simp only [Fo.app, Fo.els, els_app g r, List.cons_append]
theorem mkF_app (m : List El) : ∀ l : List El, mkF (l ++ m) = (mkF l).app (mkF m)
  | [] => rfl
  | (t, n, b) :: l => by simp only [List.cons_append, mkF, Fo.app, mkF_app m l]
theorem els_len : ∀ f : Fo, f.els.length = f.len
  | .nil => rfl
  | .cons t n b r => by simp only [Fo.els, List.length_cons, Fo.len, els_len r]
theorem mkF_len (l : List El) : (mkF l).len = l.length := by rw [← els_len, els_mk]
/-- is group j of width w like the first? -/
def GrpOk (w : Nat) (l : List El) (j : Nat) : Prop := (j + 1) * w ≤ l.length ∧ (l.drop (j * w)).take w = l.take w
instance (w : Nat) (l : List El) (j : Nat) : Decidable (GrpOk w l j) := inferInstanceAs (Decidable (_ ∧ _))
structure IsRep (w : Nat) (l : List El) (m : Nat) : Prop where
  pos : 1 ≤ m
  ok : ∀ j, 1 ≤ j → j < m → GrpOk w l j
  no : ¬ GrpOk w l m
theorem IsRep.uniq {w : Nat} {l : List El} {m k : Nat} (a : IsRep w l m) (b : IsRep w l k) : m = k := by
  rcases Nat.lt_trichotomy m k with h | h | h
  · exact absurd (b.ok m a.pos h) a.no
  · exact h
  · exact absurd (a.ok k b.pos h) b.no
def repF (w : Nat) (l : List El) : Nat → Nat → Nat
  | 0, m => m
  | k + 1, m => if GrpOk w l m then repF w l k (m + 1) else m
def reps (w : Nat) (l : List El) : Nat := repF w l l.length 1
theorem repF_is {w : Nat} (hw : 1 ≤ w) (l : List El) : ∀ k m, 1 ≤ m → (∀ j, 1 ≤ j → j < m → GrpOk w l j) → l.length ≤ k + m → IsRep w l (repF w l k m)
  | 0, m, h1, h2, h3 => ⟨h1, h2, fun h => by
      have h : (m + 1) * w ≤ l.length := h.1
      have : m + 1 ≤ (m + 1) * w := Nat.le_mul_of_pos_right _ hw
      omega⟩
  | k + 1, m, h1, h2, h3 => by
    unfold repF
    split
    · rename_i h
      refine repF_is hw l k (m + 1) (by omega) (fun j hj1 hj2 => ?_) (by omega)
      by_cases e : j = m
      · subst e; exact h
      · exact h2 j hj1 (by omega)
    · rename_i h; exact ⟨h1, h2, h⟩
theorem rep_is {w : Nat} (hw : 1 ≤ w) (l : List El) : IsRep w l (reps w l) := repF_is hw l _ 1 (Nat.le_refl _) (fun j h1 h2 => by omega) (by omega)
theorem IsRep.room {w : Nat} {l : List El} {m : Nat} (r : IsRep w l m) (h : 2 ≤ m) : m * w ≤ l.length := by
  have := (r.ok (m - 1) (by omega) (by omega)).1
  rwa [show m - 1 + 1 = m by omega] at this
def passF (w : Nat) : Nat → List El → List El
  | 0, _ => []
  | _ + 1, [] => []
  | k + 1, x :: l => if reps w (x :: l) = 1 then x :: passF w k l else ((reps w (x :: l) : Int), 0, mkF ((x :: l).take w)) :: passF w k ((x :: l).drop (reps w (x :: l) * w))
theorem passF_fuel {w : Nat} (hw : 1 ≤ w) : ∀ k k' (l : List El), l.length ≤ k → l.length ≤ k' → passF w k l = passF w k' l
  | 0, 0, _, _, _ => rfl
  | 0, k' + 1, l, h, _ => by
    obtain rfl : l = [] := List.eq_nil_of_length_eq_zero (by omega)
    rfl
  | k + 1, 0, l, _, h => by
    obtain rfl : l = [] := List.eq_nil_of_length_eq_zero (by omega)
    rfl
  | k + 1, k' + 1, [], _, _ => rfl
  | k + 1, k' + 1, x :: l, h, h' => by
    simp only [passF]
    simp only [List.length_cons] at h h'
    split
    · rw [passF_fuel hw k k' l (by omega) (by omega)]
    · have hp := (rep_is hw (x :: l)).pos
      have hd : ((x :: l).drop (reps w (x :: l) * w)).length ≤ l.length := by
        have : 1 ≤ reps w (x :: l) * w := Nat.mul_le_mul hp hw
        rw [List.length_drop, List.length_cons]; omega
      rw [passF_fuel hw k k' _ (by omega) (by omega)]
def pass (w : Nat) (l : List El) : List El := passF w l.length l
theorem pass_nil (w : Nat) : pass w [] = [] := rfl
theorem pass_one {w : Nat} {x : El} {l : List El} (hw : 1 ≤ w) (h : IsRep w (x :: l) 1) : pass w (x :: l) = x :: pass w l := by
  unfold pass
  simp only [List.length_cons, passF]
  rw [if_pos ((rep_is hw _).uniq h)]
theorem pass_many {w : Nat} {l : List El} {m : Nat} (hw : 1 ≤ w) (h : IsRep w l m) (hm : 2 ≤ m) : pass w l = ((m : Int), 0, mkF (l.take w)) :: pass w (l.drop (m * w)) := by
  have hr := h.room hm
  cases l with
  | nil =>
    have : 1 ≤ m * w := Nat.mul_le_mul h.pos hw
    simp at hr; omega
  | cons x l =>
    have e := (rep_is hw _).uniq h
    unfold pass
    simp only [List.length_cons, passF]
    rw [if_neg (by omega), e]
    congr 1
    refine passF_fuel hw _ _ _ ?_ (Nat.le_refl _)
    have : 1 ≤ m * w := Nat.mul_le_mul h.pos hw
    rw [List.length_drop, List.length_cons]; omega
/-- how many loops a row has, all in all -/
def cntE (l : List El) : Nat := (mkF l).cnt
theorem cntE_cons (x : El) (l : List El) : cntE (x :: l) = 1 + x.2.2.cnt + cntE l := by
  obtain ⟨t, n, b⟩ := x
  simp only [cntE, mkF, Fo.cnt]; omega
theorem cntE_app (m : List El) : ∀ l : List El, cntE (l ++ m) = cntE l + cntE m
  | [] => by simp [cntE, mkF, Fo.cnt]
  | x :: l => by rw [List.cons_append, cntE_cons, cntE_cons, cntE_app m l]; omega
theorem cntE_len : ∀ l : List El, l.length ≤ cntE l
  | [] => Nat.zero_le _
  | x :: l => by have := cntE_len l; rw [cntE_cons, List.length_cons]; omega
theorem cntE_drop (k : Nat) (l : List El) : cntE (l.drop k) ≤ cntE l := by
  have := cntE_app (l.drop k) (l.take k)
  rw [List.take_append_drop] at this; omega
theorem pass_cnt {w : Nat} (hw : 1 ≤ w) : ∀ (N : Nat) (l : List El), l.length ≤ N → cntE (pass w l) ≤ cntE l ∧ (pass w l).length ≤ l.length
  | N, [], _ => ⟨Nat.le_refl _, Nat.le_refl _⟩
  | 0, x :: l, h => by simp at h
  | N + 1, x :: l, h => by
    simp only [List.length_cons] at h
    have hr := rep_is hw (x :: l)
    by_cases h1 : reps w (x :: l) = 1
    · rw [h1] at hr
      obtain ⟨a, b⟩ := pass_cnt hw N l (by omega)
      rw [pass_one hw hr, cntE_cons, cntE_cons]
      simp only [List.length_cons]
      omega
    · have h2 : 2 ≤ reps w (x :: l) := by have := hr.pos; omega
      obtain ⟨m, hm⟩ : ∃ m, m = reps w (x :: l) := ⟨_, rfl⟩
      rw [← hm] at hr h2
      have hroom := hr.room h2
      have hmw : 2 * w ≤ m * w := Nat.mul_le_mul_right w h2
      rw [pass_many hw hr h2, cntE_cons]
      obtain ⟨l', hl'⟩ : ∃ l', l' = x :: l := ⟨_, rfl⟩
      rw [← hl'] at hr hroom ⊢
      have hlen : l'.length = l.length + 1 := by rw [hl']; rfl
      obtain ⟨a, b⟩ := pass_cnt hw N (l'.drop (m * w)) (by rw [List.length_drop]; omega)
      have hg := (hr.ok 1 (Nat.le_refl _) (by omega)).2
      rw [Nat.one_mul] at hg
      have e1 := cntE_app (l'.drop w) (l'.take w)
      rw [List.take_append_drop] at e1
      have e2 := cntE_app ((l'.drop w).drop w) ((l'.drop w).take w)
      rw [List.take_append_drop, hg] at e2
      have e3 : cntE (l'.drop (m * w)) ≤ cntE ((l'.drop w).drop w) := by
        have : l'.drop (m * w) = ((l'.drop w).drop w).drop (m * w - 2 * w) := by
          rw [List.drop_drop, List.drop_drop]; congr 1; omega
        rw [this]; exact cntE_drop _ _
      have e4 := cntE_len (l'.take w)
      rw [List.length_take] at e4
      simp only [List.length_cons]
      rw [List.length_drop] at b
      refine ⟨?_, by omega⟩
      show 1 + cntE (l'.take w) + _ ≤ _
      omega
/-- a row folded at width after width, from width w on -/
def cmpF : Nat → Nat → List El → List El
  | 0, _, l => l
  | k + 1, w, l => if w ≤ 16 ∧ 2 * w ≤ l.length then (if (pass w l).length < l.length then cmpF k 1 (pass w l) else cmpF k (w + 1) (pass w l)) else l
def comp (l : List El) : List El := cmpF (20 * l.length + 20) 1 l
end Go.Sx
namespace Go.Sx
open Go.Proofs
structure Nd where
  fs : List (Int × Int × Nat)
  ls : List (Nat × Nat)
  FSq : Nat → El
  LS : Nat → List El
structure Nd.Ok (N : Nd) : Prop where
  l0 : N.LS 0 = []
  ln : ∀ k a b, N.ls[k]? = some (a, b) → a ≤ N.ls.length ∧ 1 ≤ b ∧ b ≤ N.fs.length ∧ N.LS (k + 1) = N.LS a ++ [N.FSq b]
  fn : ∀ k t n b, N.fs[k]? = some (t, n, b) → b ≤ N.ls.length ∧ N.FSq (k + 1) = (t, n, mkF (N.LS b))
  il : ∀ a b, a ≤ N.ls.length → b ≤ N.ls.length → N.LS a = N.LS b → a = b
  ff : ∀ a b, 1 ≤ a → 1 ≤ b → a ≤ N.fs.length → b ≤ N.fs.length → N.FSq a = N.FSq b → a = b
structure Nd.Ext (N M : Nd) : Prop where
  fl : N.fs.length ≤ M.fs.length
  ll : N.ls.length ≤ M.ls.length
  ef : ∀ k, k ≤ N.fs.length → M.FSq k = N.FSq k
  el : ∀ k, k ≤ N.ls.length → M.LS k = N.LS k
def Nd.sz (N : Nd) : Nat := N.fs.length + N.ls.length
theorem Nd.Ext.refl (N : Nd) : N.Ext N := ⟨Nat.le_refl _, Nat.le_refl _, fun _ _ => rfl, fun _ _ => rfl⟩
theorem Nd.Ext.trans {N M K : Nd} (x : N.Ext M) (y : M.Ext K) : N.Ext K :=
  ⟨Nat.le_trans x.fl y.fl, Nat.le_trans x.ll y.ll, fun k hk => by rw [y.ef k (Nat.le_trans hk x.fl), x.ef k hk], fun k hk => by rw [y.el k (Nat.le_trans hk x.ll), x.el k hk]⟩
def Nd.fresh : Nd := ⟨[], [], fun _ => (0, 0, .nil), fun _ => []⟩
theorem Nd.fresh_ok : Nd.fresh.Ok := ⟨rfl, fun k a b h => by simp [Nd.fresh] at h, fun k t n b h => by simp [Nd.fresh] at h, fun a b ha hb _ => by simp [Nd.fresh] at ha hb; omega, fun a b h1 _ h2 => by simp [Nd.fresh] at h2; omega⟩
def Nd.link (N : Nd) (a b : Nat) : Nd := ⟨N.fs, N.ls ++ [(a, b)], N.FSq, fun k => if k = N.ls.length + 1 then N.LS a ++ [N.FSq b] else N.LS k⟩
def Nd.face (N : Nd) (t n : Int) (b : Nat) : Nd := ⟨N.fs ++ [(t, n, b)], N.ls, fun k => if k = N.fs.length + 1 then (t, n, mkF (N.LS b)) else N.FSq k, N.LS⟩
theorem Nd.link_ext (N : Nd) (a b : Nat) : N.Ext (N.link a b) := ⟨Nat.le_refl _, by simp [Nd.link], fun _ _ => rfl, fun k hk => by
  simp only [Nd.link]; rw [if_neg (by omega)]⟩
theorem Nd.face_ext (N : Nd) (t n : Int) (b : Nat) : N.Ext (N.face t n b) := ⟨by simp [Nd.face], Nat.le_refl _, fun k hk => by
  simp only [Nd.face]; rw [if_neg (by omega)], fun _ _ => rfl⟩
theorem Nd.Ok.find_link {N : Nd} (o : N.Ok) {k : Nat} (hk : k ≤ N.ls.length) {a b : Nat} (ha : a ≤ N.ls.length) (h1 : 1 ≤ b) (hb : b ≤ N.fs.length) (h : N.LS k = N.LS a ++ [N.FSq b]) : ∃ i, k = i + 1 ∧ N.ls[i]? = some (a, b) := by
  cases k with
  | zero => rw [o.l0] at h; simp at h
  | succ i =>
    refine ⟨i, rfl, ?_⟩
    obtain ⟨⟨a', b'⟩, hx⟩ : ∃ x, N.ls[i]? = some x := ⟨_, List.getElem?_eq_getElem (by omega)⟩
    obtain ⟨q1, q2, q3, q4⟩ := o.ln i a' b' hx
    rw [q4] at h
    obtain ⟨e1, e2⟩ := List.append_inj' h rfl
    have ea := o.il a' a q1 ha e1
    injection e2 with e2
    have eb := o.ff b' b q2 h1 q3 hb e2
    rw [hx, ea, eb]
theorem Nd.link_ok {N : Nd} (o : N.Ok) {a b : Nat} (ha : a ≤ N.ls.length) (h1 : 1 ≤ b) (hb : b ≤ N.fs.length) (hn : (a, b) ∉ N.ls) : (N.link a b).Ok := by
  have hne : ∀ k, k ≤ N.ls.length → N.LS k ≠ N.LS a ++ [N.FSq b] := fun k hk h => by
    obtain ⟨i, _, hi⟩ := o.find_link hk ha h1 hb h
    exact hn (List.mem_of_getElem? hi)
  have hL : ∀ k, k ≤ N.ls.length → (N.link a b).LS k = N.LS k := (N.link_ext a b).el
  have hlast : (N.link a b).LS (N.ls.length + 1) = N.LS a ++ [N.FSq b] := by simp [Nd.link]
  have hlen : (N.link a b).ls.length = N.ls.length + 1 := by simp [Nd.link]
  refine ⟨by rw [hL 0 (Nat.zero_le _)]; exact o.l0, fun k c d hk => ?_, fun k t n c hk => ?_, fun c d hc hd h => ?_, o.ff⟩
  · have hk' : (N.ls ++ [(a, b)])[k]? = some (c, d) := hk
    rw [List.getElem?_append] at hk'
    split at hk'
    · rename_i hlt
      obtain ⟨q1, q2, q3, q4⟩ := o.ln k c d hk'
      exact ⟨by omega, q2, q3, by rw [hL _ (by omega), hL _ q1]; exact q4⟩
    · rename_i hlt
      have hk0 : k - N.ls.length = 0 := by
        have := (List.getElem?_eq_some_iff.1 hk').1
        simp at this; exact this
      rw [hk0] at hk'
      simp at hk'
      obtain ⟨rfl, rfl⟩ := hk'
      obtain rfl : k = N.ls.length := by omega
      exact ⟨by omega, h1, hb, by rw [hlast, hL _ ha]; rfl⟩
  · obtain ⟨q1, q2⟩ := o.fn k t n c hk
    exact ⟨by omega, by rw [hL _ q1]; exact q2⟩
  · rw [hlen] at hc hd
    by_cases e1 : c = N.ls.length + 1
    · by_cases e2 : d = N.ls.length + 1
      · omega
      · rw [e1, hlast, hL d (by omega)] at h
        exact absurd h.symm (hne d (by omega))
    · by_cases e2 : d = N.ls.length + 1
      · rw [e2, hlast, hL c (by omega)] at h
        exact absurd h (hne c (by omega))
      · rw [hL c (by omega), hL d (by omega)] at h
        exact o.il c d (by omega) (by omega) h
theorem Nd.Ok.find_face {N : Nd} (o : N.Ok) {k : Nat} (h0 : 1 ≤ k) (hk : k ≤ N.fs.length) {t n : Int} {b : Nat} (hb : b ≤ N.ls.length) (h : N.FSq k = (t, n, mkF (N.LS b))) : ∃ i, k = i + 1 ∧ N.fs[i]? = some (t, n, b) := by
  cases k with
  | zero => omega
  | succ i =>
    refine ⟨i, rfl, ?_⟩
    obtain ⟨⟨t', n', b'⟩, hx⟩ : ∃ x, N.fs[i]? = some x := ⟨_, List.getElem?_eq_getElem (by omega)⟩
    obtain ⟨q1, q2⟩ := o.fn i t' n' b' hx
    rw [q2] at h
    injection h with e1 e2
    injection e2 with e2 e3
    have eb := o.il b' b q1 hb (mkF_inj e3)
    rw [hx, e1, e2, eb]
theorem Nd.face_ok {N : Nd} (o : N.Ok) {t n : Int} {b : Nat} (hb : b ≤ N.ls.length) (hn : (t, n, b) ∉ N.fs) : (N.face t n b).Ok := by
  have hne : ∀ k, 1 ≤ k → k ≤ N.fs.length → N.FSq k ≠ (t, n, mkF (N.LS b)) := fun k h0 hk h => by
    obtain ⟨i, _, hi⟩ := o.find_face h0 hk hb h
    exact hn (List.mem_of_getElem? hi)
  have hF : ∀ k, k ≤ N.fs.length → (N.face t n b).FSq k = N.FSq k := (N.face_ext t n b).ef
  have hlast : (N.face t n b).FSq (N.fs.length + 1) = (t, n, mkF (N.LS b)) := by simp [Nd.face]
  have hlen : (N.face t n b).fs.length = N.fs.length + 1 := by simp [Nd.face]
  refine ⟨o.l0, fun k c d hk => ?_, fun k t' n' c hk => ?_, o.il, fun c d h1 h2 hc hd h => ?_⟩
  · obtain ⟨q1, q2, q3, q4⟩ := o.ln k c d hk
    exact ⟨q1, q2, by omega, by rw [hF d q3]; exact q4⟩
  · have hk' : (N.fs ++ [(t, n, b)])[k]? = some (t', n', c) := hk
    rw [List.getElem?_append] at hk'
    split at hk'
    · rename_i hlt
      obtain ⟨q1, q2⟩ := o.fn k t' n' c hk'
      exact ⟨q1, by rw [hF _ (by omega)]; exact q2⟩
    · rename_i hlt
      have hk0 : k - N.fs.length = 0 := by
        have := (List.getElem?_eq_some_iff.1 hk').1
        simp at this; exact this
      rw [hk0] at hk'
      simp at hk'
      obtain ⟨rfl, rfl, rfl⟩ := hk'
      obtain rfl : k = N.fs.length := by omega
      exact ⟨hb, hlast⟩
  · rw [hlen] at hc hd
    by_cases e1 : c = N.fs.length + 1
    · by_cases e2 : d = N.fs.length + 1
      · omega
      · rw [e1, hlast, hF d (by omega)] at h
        exact absurd h.symm (hne d h2 (by omega))
    · by_cases e2 : d = N.fs.length + 1
      · rw [e2, hlast, hF c (by omega)] at h
        exact absurd h (hne c h1 (by omega))
      · rw [hF c (by omega), hF d (by omega)] at h
        exact o.ff c d h1 h2 (by omega) (by omega) h
/-! ### in the heap -/
def fkey (x : Int × Int × Nat) : List Int := [x.1, x.2.1, (x.2.2 : Int)]
def lkey (x : Nat × Nat) : List Int := [(x.1 : Int), (x.2 : Int)]
theorem fkey_inj {x y : Int × Int × Nat} (h : fkey x = fkey y) : x = y := by
  obtain ⟨a, b, c⟩ := x
  obtain ⟨a', b', c'⟩ := y
  simp only [fkey, List.cons.injEq, and_true] at h
  obtain ⟨rfl, rfl, h⟩ := h
  rw [show c = c' by omega]
theorem lkey_inj {x y : Nat × Nat} (h : lkey x = lkey y) : x = y := by
  obtain ⟨a, b⟩ := x
  obtain ⟨a', b'⟩ := y
  simp only [lkey, List.cons.injEq, and_true] at h
  rw [show a = a' by omega, show b = b' by omega]
/-- the entries of a map that numbers what stands in a list -/
structure Ents {α : Type} (key : α → List Int) (l : List α) (es : List Ent) : Prop where
  len : es.length = l.length
  at_ : ∀ (i : Nat) (e : Ent) (x : α), es[i]? = some e → l[i]? = some x → e.k = key x ∧ e.v = iv ((i + 1 : Nat) : Int)
theorem assoc_none : ∀ (es : List Ent) (k : List Int), assoc es k = none → ∀ (i : Nat) (e : Ent), es[i]? = some e → e.k ≠ k
  | [], _, _, i, e, h => by simp at h
  | x :: es, k, h, i, e, he => by
    simp only [assoc] at h
    split at h
    · cases h
    · rename_i hne
      cases i with
      | zero => injection he with he; subst he; exact fun q => hne q.symm
      | succ i => exact assoc_none es k h i e (by simpa using he)
theorem assoc_some : ∀ (es : List Ent) (k : List Int) (v : Value), assoc es k = some v → ∃ (i : Nat) (e : Ent), es[i]? = some e ∧ e.k = k ∧ e.v = v
  | [], _, _, h => by cases h
  | x :: es, k, v, h => by
    simp only [assoc] at h
    split at h
    · rename_i he
      injection h with h
      exact ⟨0, x, rfl, he.symm, h⟩
    · obtain ⟨i, e, h1, h2⟩ := assoc_some es k v h
      exact ⟨i + 1, e, by simpa using h1, h2⟩
theorem upsert_none : ∀ (es : List Ent) (k : List Int) (v : Value) (c : Nat), assoc es k = none → upsert es k v c = es ++ [⟨k, v, c⟩]
  | [], _, _, _, _ => rfl
  | x :: es, k, v, c, h => by
    simp only [assoc] at h
    split at h
    · cases h
    · rename_i hne
      simp only [upsert, if_neg hne, upsert_none es k v c h, List.cons_append]
theorem Ents.none {α : Type} {key : α → List Int} {l : List α} {es : List Ent} (s : Ents key l es) {x : α} (h : assoc es (key x) = .none) : x ∉ l := fun hx => by
  obtain ⟨i, hi⟩ := List.getElem?_of_mem hx
  have hlt := (List.getElem?_eq_some_iff.1 hi).1
  obtain ⟨e, he⟩ : ∃ e, es[i]? = some e := ⟨_, List.getElem?_eq_getElem (by rw [s.len]; exact hlt)⟩
  exact assoc_none es _ h i e he (s.at_ i e x he hi).1
theorem Ents.some {α : Type} {key : α → List Int} (hk : ∀ x y, key x = key y → x = y) {l : List α} {es : List Ent} (s : Ents key l es) {x : α} {v : Value} (h : assoc es (key x) = .some v) : ∃ i, l[i]? = .some x ∧ v = iv ((i + 1 : Nat) : Int) := by
  obtain ⟨i, e, h1, h2, h3⟩ := assoc_some es _ v h
  have hlt := (List.getElem?_eq_some_iff.1 h1).1
  obtain ⟨y, hy⟩ : ∃ y, l[i]? = Option.some y := ⟨_, List.getElem?_eq_getElem (by rw [← s.len]; exact hlt)⟩
  obtain ⟨q1, q2⟩ := s.at_ i e y h1 hy
  have := hk y x (by rw [← q1, h2])
  subst this
  exact ⟨i, hy, by rw [← h3, q2]⟩
theorem Ents.add {α : Type} {key : α → List Int} {l : List α} {es : List Ent} (s : Ents key l es) (x : α) (c : Nat) : Ents key (l ++ [x]) (es ++ [⟨key x, iv ((es.length : Int) + 1), c⟩]) := by
  refine ⟨by simp [s.len], fun i e y he hy => ?_⟩
  rw [List.getElem?_append] at he hy
  rw [s.len] at he
  split at he
  · rename_i hlt
    rw [if_pos hlt] at hy
    exact s.at_ i e y he hy
  · rename_i hlt
    rw [if_neg hlt] at hy
    have h0 : i - l.length = 0 := by
      have := (List.getElem?_eq_some_iff.1 he).1
      simp at this; exact this
    rw [h0] at he hy
    simp at he hy
    subst he; subst hy
    obtain rfl : i = l.length := by omega
    exact ⟨rfl, by simp⟩
structure NmAt (h : Hp) (nb bf bl : Nat) (N : Nd) : Prop where
  cell : h nb = some (.cells [.map (some bf), .map (some bl)].toArray 82 (0, 0))
  f : ∃ es clk, MapAt h bf 8 es clk ∧ Ents fkey N.fs es
  l : ∃ es clk, MapAt h bl 7 es clk ∧ Ents lkey N.ls es
  ne : bf ≠ bl
  ok : N.Ok
theorem map_cells {kk : Nat} {es : List Ent} {clk : Nat} {cs : Array Value} {ty : Nat} {p : Nat × Nat} : mapObj kk es clk ≠ .cells cs ty p := by intro h; cases h
theorem NmAt.ne1 {h : Hp} {nb bf bl : Nat} {N : Nd} (x : NmAt h nb bf bl N) : nb ≠ bf := fun e => by
  obtain ⟨es, clk, hm, _⟩ := x.f
  have h1 := x.cell
  rw [e, hm.at_] at h1
  cases h1
theorem NmAt.ne2 {h : Hp} {nb bf bl : Nat} {N : Nd} (x : NmAt h nb bf bl N) : nb ≠ bl := fun e => by
  obtain ⟨es, clk, hm, _⟩ := x.l
  have h1 := x.cell
  rw [e, hm.at_] at h1
  cases h1
theorem NmAt.mono {h h' : Hp} {nb bf bl : Nat} {N : Nd} (x : NmAt h nb bf bl N) (l : h.le h') : NmAt h' nb bf bl N :=
  ⟨l _ _ x.cell, let ⟨es, clk, hm, s⟩ := x.f; ⟨es, clk, ⟨l _ _ hm.at_, hm.keys⟩, s⟩, let ⟨es, clk, hm, s⟩ := x.l; ⟨es, clk, ⟨l _ _ hm.at_, hm.keys⟩, s⟩, x.ne, x.ok⟩
/-- the heap but for two blocks -/
def Hp.off (h : Hp) (bf bl : Nat) : Hp := fun j => if j = bf ∨ j = bl then none else h j
theorem Hp.off_le (h : Hp) (bf bl : Nat) : (h.off bf bl).le h := fun j o e => by
  unfold Hp.off at e; split at e
  · cases e
  · exact e
theorem Hp.off_of {h : Hp} {bf bl j : Nat} (h1 : j ≠ bf) (h2 : j ≠ bl) : h.off bf bl j = h j := by
  unfold Hp.off; rw [if_neg (by intro q; rcases q with q | q; exact h1 q; exact h2 q)]
theorem Hp.off_put1 {h : Hp} {bf bl : Nat} (o : Obj) : (h.put bf o).off bf bl = h.off bf bl := by
  funext j; unfold Hp.off
  split
  · rfl
  · rename_i q; rw [Hp.put_ne _ _ (fun e => q (.inl e))]
theorem Hp.off_put2 {h : Hp} {bf bl : Nat} (o : Obj) : (h.put bl o).off bf bl = h.off bf bl := by
  funext j; unfold Hp.off
  split
  · rfl
  · rename_i q; rw [Hp.put_ne _ _ (fun e => q (.inr e))]
theorem Hp.off_mono {h h' : Hp} {bf bl : Nat} (x : h.le h') : (h.off bf bl).le (h'.off bf bl) := fun j o e => by
  unfold Hp.off at e ⊢; split at e
  · cases e
  · rename_i q; rw [if_neg q]; exact x j o e
theorem NmAt.addL {h : Hp} {nb bf bl : Nat} {N : Nd} (x : NmAt h nb bf bl N) {a b : Nat} (ha : a ≤ N.ls.length) (h1 : 1 ≤ b) (hb : b ≤ N.fs.length) {es : List Ent} {clk clk' c : Nat} (hm : MapAt h bl 7 es clk) (s : Ents lkey N.ls es) (hn : assoc es [(a : Int), (b : Int)] = none) :
    NmAt (h.put bl (mapObj 7 (upsert es [(a : Int), (b : Int)] (iv ((es.length : Int) + 1)) c) clk')) nb bf bl (N.link a b) := by
  have hnot : (a, b) ∉ N.ls := s.none (x := (a, b)) hn
  obtain ⟨es2, clk2, hm2, s2⟩ := x.f
  refine ⟨by rw [Hp.put_ne _ _ x.ne2]; exact x.cell, ⟨es2, clk2, ⟨by rw [Hp.put_ne _ _ x.ne]; exact hm2.at_, hm2.keys⟩, s2⟩, ⟨_, clk', ⟨Hp.put_same _ _ _, fun e he => ?_⟩, ?_⟩, x.ne, Nd.link_ok x.ok ha h1 hb hnot⟩
  · rw [upsert_none _ _ _ _ hn] at he
    rcases List.mem_append.1 he with he | he
    · exact hm.keys e he
    · rw [List.mem_singleton.1 he]; rfl
  · rw [upsert_none _ _ _ _ hn]
    exact s.add (a, b) c
theorem NmAt.addF {h : Hp} {nb bf bl : Nat} {N : Nd} (x : NmAt h nb bf bl N) {t n : Int} {b : Nat} (hb : b ≤ N.ls.length) {es : List Ent} {clk clk' c : Nat} (hm : MapAt h bf 8 es clk) (s : Ents fkey N.fs es) (hn : assoc es [t, n, (b : Int)] = none) :
    NmAt (h.put bf (mapObj 8 (upsert es [t, n, (b : Int)] (iv ((es.length : Int) + 1)) c) clk')) nb bf bl (N.face t n b) := by
  have hnot : (t, n, b) ∉ N.fs := s.none (x := (t, n, b)) hn
  obtain ⟨es2, clk2, hm2, s2⟩ := x.l
  refine ⟨by rw [Hp.put_ne _ _ x.ne1]; exact x.cell, ⟨_, clk', ⟨Hp.put_same _ _ _, fun e he => ?_⟩, ?_⟩, ⟨es2, clk2, ⟨by rw [Hp.put_ne _ _ (Ne.symm x.ne)]; exact hm2.at_, hm2.keys⟩, s2⟩, x.ne, Nd.face_ok x.ok hb hnot⟩
  · rw [upsert_none _ _ _ _ hn] at he
    rcases List.mem_append.1 he with he | he
    · exact hm.keys e he
    · rw [List.mem_singleton.1 he]; rfl
  · rw [upsert_none _ _ _ _ hn]
    exact s.add (t, n, b) c
end Go.Sx
namespace Go.Sx
open Go.Proofs
set_option maxRecDepth 100000
theorem link45 {h : Hp} {nb bf bl : Nat} {N : Nd} (hn : NmAt h nb bf bl N) {a b : Nat} (ha : a ≤ N.ls.length) (h1 : 1 ≤ b) (hb : b ≤ N.fs.length) (hsz : N.sz ≤ 4000000000) :
    Fn Try.prog 45 #[lptr nb, iv a, iv b] h fun v h' => ∃ (M : Nd) (r : Nat), v = iv r ∧ N.Ext M ∧ NmAt h' nb bf bl M ∧ M.LS r = N.LS a ++ [N.FSq b] ∧ r ≤ M.ls.length ∧ M.sz ≤ N.sz + 1 ∧ h'.off bf bl = h.off bf bl := by
  obtain ⟨es, clk, hm, s⟩ := hn.l
  have hlen := s.len
  simp only [Nd.sz] at hsz
  refine Fn.intro (args := [lptr nb, iv a, iv b]) mix16 Try.func45 rfl (by decide) Try.ntmps45 rfl (low45 rfl) rfl ?_
  conv => whnf
  refine .hp (.map (some bl)) (lit_cell hn.cell rfl) ?_
  conv => whnf
  refine .mk es clk hm ?_
  cases hq : assoc es [(a : Int), (b : Int)] with
  | some v =>
    obtain ⟨i, hi, rfl⟩ := s.some (fun _ _ => lkey_inj) (x := (a, b)) hq
    conv => whnf
    refine .hp (.map (some bl)) (lit_cell hn.cell rfl) ?_
    conv => whnf
    refine .mk es clk hm ?_
    rw [hq]
    conv => whnf
    have hlt := (List.getElem?_eq_some_iff.1 hi).1
    exact .done ⟨N, i + 1, rfl, Nd.Ext.refl N, hn, (hn.ok.ln i a b hi).2.2.2, hlt, Nat.le_succ _, rfl⟩
  | none =>
    conv => whnf
    refine .hp (.map (some bl)) (lit_cell hn.cell rfl) ?_
    conv => whnf
    refine .hp (.map (some bl)) (lit_cell hn.cell rfl) ?_
    conv => whnf
    refine .mk 7 es clk hm ?_
    conv => whnf
    refine .ok (by omega) (by omega) ?_
    conv => whnf
    refine .mk es clk hm fun clk' => ?_
    conv => whnf
    have hn2 := hn.addL (clk' := clk') (c := clk) ha h1 hb hm s hq
    refine .hp (.map (some bl)) (lit_cell hn2.cell rfl) ?_
    conv => whnf
    obtain ⟨es2, clk2, hm2, s2⟩ := hn2.l
    refine .mk _ clk' ⟨Hp.put_same _ _ _, ?_⟩ ?_
    · intro e he
      rw [upsert_none _ _ _ _ hq] at he
      rcases List.mem_append.1 he with he | he
      · exact hm.keys e he
      · rw [List.mem_singleton.1 he]; rfl
    rw [assoc_upsert, if_pos rfl]
    conv => whnf
    refine .done ⟨N.link a b, N.ls.length + 1, ?_, N.link_ext a b, hn2, ?_, ?_, ?_, Hp.off_put2 _⟩
    · rw [← hlen]; rfl
    · simp [Nd.link]
    · simp [Nd.link]
    · simp [Nd.link, Nd.sz]; omega
theorem face46 {h : Hp} {nb bf bl : Nat} {N : Nd} (hn : NmAt h nb bf bl N) {t n : Int} {b : Nat} (hb : b ≤ N.ls.length) (hsz : N.sz ≤ 4000000000) :
    Fn Try.prog 46 #[lptr nb, .agg #[iv t, iv n, iv b]] h fun v h' => ∃ (M : Nd) (r : Nat), v = iv r ∧ N.Ext M ∧ NmAt h' nb bf bl M ∧ M.FSq r = (t, n, mkF (N.LS b)) ∧ 1 ≤ r ∧ r ≤ M.fs.length ∧ M.sz ≤ N.sz + 1 ∧ h'.off bf bl = h.off bf bl := by
  obtain ⟨es, clk, hm, s⟩ := hn.f
  have hlen := s.len
  simp only [Nd.sz] at hsz
  refine Fn.intro (args := [lptr nb, .agg #[iv t, iv n, iv b]]) mix16 Try.func46 rfl (by decide) Try.ntmps46 rfl (low46 rfl) rfl ?_
  conv => whnf
  refine .hp (.map (some bf)) (lit_cell hn.cell rfl) ?_
  conv => whnf
  refine .mk es clk hm ?_
  cases hq : assoc es [t, n, (b : Int)] with
  | some v =>
    obtain ⟨i, hi, rfl⟩ := s.some (fun _ _ => fkey_inj) (x := (t, n, b)) hq
    conv => whnf
    refine .hp (.map (some bf)) (lit_cell hn.cell rfl) ?_
    conv => whnf
    refine .mk es clk hm ?_
    rw [hq]
    conv => whnf
    have hlt := (List.getElem?_eq_some_iff.1 hi).1
    exact .done ⟨N, i + 1, rfl, Nd.Ext.refl N, hn, (hn.ok.fn i t n b hi).2, Nat.succ_pos _, hlt, Nat.le_succ _, rfl⟩
  | none =>
    conv => whnf
    refine .hp (.map (some bf)) (lit_cell hn.cell rfl) ?_
    conv => whnf
    refine .hp (.map (some bf)) (lit_cell hn.cell rfl) ?_
    conv => whnf
    refine .mk 8 es clk hm ?_
    conv => whnf
    refine .ok (by omega) (by omega) ?_
    conv => whnf
    refine .mk es clk hm fun clk' => ?_
    conv => whnf
    have hn2 := hn.addF (clk' := clk') (c := clk) hb hm s hq
    refine .hp (.map (some bf)) (lit_cell hn2.cell rfl) ?_
    conv => whnf
    refine .mk _ clk' ⟨Hp.put_same _ _ _, ?_⟩ ?_
    · intro e he
      rw [upsert_none _ _ _ _ hq] at he
      rcases List.mem_append.1 he with he | he
      · exact hm.keys e he
      · rw [List.mem_singleton.1 he]; rfl
    rw [assoc_upsert, if_pos rfl]
    conv => whnf
    refine .done ⟨N.face t n b, N.fs.length + 1, ?_, N.face_ext t n b, hn2, ?_, Nat.succ_pos _, ?_, ?_, Hp.off_put1 _⟩
    · rw [← hlen]; rfl
    · simp [Nd.face]
    · simp [Nd.face]
    · simp [Nd.face, Nd.sz]; omega
end Go.Sx
namespace Go.Sx
open Go.Proofs
set_option maxRecDepth 100000
theorem loop47 : ∀ (K : Nat) (b : Lo), b.cnt < K → b.cnt ≤ 200000 → ∀ (t n : Int) (B : Option Addr) (m c : Nat) (h : Hp) (nb bf bl : Nat) (N : Nd), NmAt h nb bf bl N → SAt (h.off bf bl) B m b → N.sz + 2 * b.cnt + 1 ≤ 4000000000 →
    Fn Try.prog 47 #[lptr nb, .agg (lcells t n B m c).toArray] h fun v h' => ∃ (M : Nd) (r : Nat), v = iv r ∧ N.Ext M ∧ NmAt h' nb bf bl M ∧ M.FSq r = (t, n, b.fo) ∧ 1 ≤ r ∧ r ≤ M.fs.length ∧ M.sz ≤ N.sz + 2 * b.cnt + 1 ∧ h'.off bf bl = h.off bf bl
  | 0, b, hN, _ => absurd hN (Nat.not_lt_zero _)
  | K + 1, b, hN, hc0 => by
    intro t n B m c h nb bf bl N hn hs hsz
    have hm : m ≤ 200000 := by have := hs.1; have := b.len_cnt; omega
    refine Fn.intro (args := [lptr nb, .agg (lcells t n B m c).toArray]) mix16 Try.func47 rfl (by decide) Try.ntmps47 rfl (low47 rfl) rfl ?_
    conv => whnf
    refine .mkS [0] (Nat × Nat × Nd × Lo) [0, 3, 5, 9, 10, 11] (fun (i, k, _, _) => [.v (lptr nb), .p 0 0, .v (iv k), .v (.slice B m c), .v (iv m), .v (iv i)]) (fun _ => [.own ((lcells t n B m c).map .v) 41])
      (fun (i, k, M, r) h' => NmAt h' nb bf bl M ∧ N.Ext M ∧ Tl (h.off bf bl) B m i r ∧ k ≤ M.ls.length ∧ M.LS k ++ r.fo.els = b.fo.els ∧ M.sz + 2 * r.cnt ≤ N.sz + 2 * b.cnt ∧ r.cnt ≤ b.cnt ∧ h'.off bf bl = h.off bf bl) (fun (i, _, _, _) => m - i) (0, 0, N, b) (fun _ => rfl)
      ⟨hn, Nd.Ext.refl N, hs.tl, Nat.zero_le _, by rw [hn.ok.l0]; rfl, Nat.le_refl _, Nat.le_refl _, rfl⟩ rfl rfl rfl ?_
    rintro ⟨i, k, M, r⟩ e h' ⟨hM, hE, ht, hk, he, hz, hrl, ho⟩
    refine .done ?_
    conv => whnf
    refine br_dec (fun h2 => ?_) (fun h2 => ?_)
    · cases r with
      | nil => have := ht.fin; omega
      | cons t' n' B' m' c' b' r =>
        obtain ⟨g, hB, hi, hc, hb, hr⟩ := ht.open
        simp only [Lo.cnt] at hrl hz
        simp only [Lo.fo, Fo.els] at he
        conv => whnf
        refine .mk g hB (by omega) (by omega) ?_
        conv => whnf
        refine .hp (lcells t' n' B' m' c') rfl (by rw [Int.toNat_natCast]; exact fun j v hv => Hp.cell_le (h'.off_le bf bl) (by rw [ho]; exact hc j v hv)) ?_
        conv => whnf
        refine .done (.mk _ (loop47 K b' (by omega) (by omega) t' n' B' m' c' h' nb bf bl M hM (by rw [ho]; exact hb) (by omega)) ?_)
        rintro _ h3 ⟨M3, r3, rfl, E3, hM3, hF3, h31, h32, hz3, ho3⟩
        conv => whnf
        refine .done (.mk _ (link45 hM3 (a := k) (b := r3) (Nat.le_trans hk E3.ll) h31 h32 (by omega)) ?_)
        rintro _ h4 ⟨M4, r4, rfl, E4, hM4, hL4, h42, hz4, ho4⟩
        conv => whnf
        refine .ok (by omega) (by omega) ?_
        conv => whnf
        refine .done ⟨(i + 1, r4, M4, r), rfl, rfl, ⟨hM4, hE.trans (E3.trans E4), hr, h42, ?_, by omega, by omega, by rw [ho4, ho3, ho]⟩, by show m - (i + 1) < m - i; omega⟩
        rw [hL4, hF3, E3.el k hk, ← he, List.append_assoc]
        rfl
    · conv => whnf
      cases r with
      | nil =>
        simp only [Lo.fo, Fo.els, List.append_nil] at he
        simp only [Lo.cnt] at hz
        refine .done (.mk _ (face46 hM (t := t) (n := n) (b := k) hk (by omega)) ?_)
        rintro _ h4 ⟨M4, r4, rfl, E4, hM4, hF4, h41, h42, hz4, ho4⟩
        conv => whnf
        refine .done ⟨M4, r4, rfl, hE.trans E4, hM4, ?_, h41, h42, by omega, by rw [ho4, ho]⟩
        rw [hF4, he, mk_els]
      | cons => obtain ⟨g, hA, hi, _⟩ := ht.open; omega
end Go.Sx
namespace Go.Sx
open Go.Proofs
set_option maxRecDepth 100000
def Lo.dr : Nat → Lo → Lo
  | 0, l => l
  | _ + 1, .nil => .nil
  | k + 1, .cons _ _ _ _ _ _ r => r.dr k
def Lo.tk : Nat → Lo → Lo
  | 0, _ => .nil
  | _ + 1, .nil => .nil
  | k + 1, .cons t n B m c b r => .cons t n B m c b (r.tk k)
theorem dr_els : ∀ (k : Nat) (l : Lo), (l.dr k).fo.els = l.fo.els.drop k
  | 0, l => by simp [Lo.dr]
  | k + 1, .nil => by simp [Lo.dr, Lo.fo, Fo.els]
  | k + 1, .cons _ _ _ _ _ _ r => by simp only [Lo.dr, Lo.fo, Fo.els, List.drop_succ_cons, dr_els k r]
theorem tk_els : ∀ (k : Nat) (l : Lo), (l.tk k).fo.els = l.fo.els.take k
  | 0, l => by simp [Lo.tk, Lo.fo, Fo.els]
  | k + 1, .nil => by simp [Lo.tk, Lo.fo, Fo.els]
  | k + 1, .cons _ _ _ _ _ _ r => by simp only [Lo.tk, Lo.fo, Fo.els, List.take_succ_cons, tk_els k r]
theorem fo_els_len (l : Lo) : l.fo.els.length = l.len := by rw [els_len, Lo.fo_len]
theorem dr_len (k : Nat) (l : Lo) : (l.dr k).len = l.len - k := by rw [← fo_els_len, dr_els, List.length_drop, fo_els_len]
theorem tk_len (k : Nat) (l : Lo) : (l.tk k).len = min k l.len := by rw [← fo_els_len, tk_els, List.length_take, fo_els_len]
theorem dr_cnt : ∀ (k : Nat) (l : Lo), (l.dr k).cnt ≤ l.cnt
  | 0, l => Nat.le_refl _
  | k + 1, .nil => Nat.le_refl _
  | k + 1, .cons _ _ _ _ _ b r => by have := dr_cnt k r; simp only [Lo.dr, Lo.cnt]; omega
theorem tk_cnt : ∀ (k : Nat) (l : Lo), (l.tk k).cnt ≤ l.cnt
  | 0, l => Nat.zero_le _
  | k + 1, .nil => Nat.le_refl _
  | k + 1, .cons _ _ _ _ _ b r => by have := tk_cnt k r; simp only [Lo.tk, Lo.cnt]; omega
theorem at_dr {h : Hp} {g : Addr} : ∀ (k : Nat) (l : Lo) (i : Nat), At h g i l → At h g (i + k) (l.dr k)
  | 0, _, _, a => a
  | _ + 1, .nil, _, _ => trivial
  | k + 1, .cons _ _ _ _ _ _ r, i, ⟨_, _, _, a⟩ => by rw [show i + (k + 1) = i + 1 + k by omega]; exact at_dr k r (i + 1) a
theorem at_tk {h : Hp} {g : Addr} : ∀ (k : Nat) (l : Lo) (i : Nat), At h g i l → At h g i (l.tk k)
  | 0, _, _, _ => trivial
  | _ + 1, .nil, _, _ => trivial
  | k + 1, .cons _ _ _ _ _ _ r, i, ⟨a, b, c, d⟩ => ⟨a, b, c, at_tk k r (i + 1) d⟩
theorem at_base {h : Hp} {g : Addr} (i : Nat) : ∀ (l : Lo) (j : Nat), At h g (i + j) l → At h (g.add (i * 3)) j l
  | .nil, _, _ => trivial
  | .cons _ _ _ _ _ _ r, j, ⟨a, b, c, d⟩ => ⟨fun q v hv => by
      have := a q v hv
      rw [add_add, add_add, ← Nat.add_assoc, ← Nat.add_mul, ← add_add]; exact this, b, c, at_base i r (j + 1) d⟩
/-- a part of a row -/
theorem sat_part {h : Hp} {A B : Option Addr} {m i w : Nat} {l : Lo} (s : SAt h A m l) (hi : i + w ≤ m) (hB : 0 < w → B = A.map (fun a => a.add (i * 3))) : SAt h B w ((l.dr i).tk w) := by
  obtain ⟨h1, h2⟩ := s
  refine ⟨by rw [tk_len, dr_len]; omega, ?_⟩
  by_cases hw : w = 0
  · subst hw; exact .inl rfl
  · rcases h2 with h2 | ⟨g, hg, ha⟩
    · subst h2; simp only [Lo.len] at h1; omega
    · refine .inr ⟨g.add (i * 3), by rw [hB (by omega), hg]; rfl, at_tk w _ 0 (at_base i _ 0 ?_)⟩
      have := at_dr i l 0 ha
      rwa [Nat.zero_add] at this
theorem tl_part {h : Hp} {A : Option Addr} {m i : Nat} {l : Lo} (s : SAt h A m l) (hi : i ≤ m) : Tl h A m i (l.dr i) := by
  obtain ⟨h1, h2⟩ := s
  refine ⟨by rw [dr_len]; omega, ?_⟩
  rcases h2 with h2 | ⟨g, hg, ha⟩
  · subst h2; cases i <;> exact .inl rfl
  · have := at_dr i l 0 ha
    rw [Nat.zero_add] at this
    exact .inr ⟨g, hg, this⟩
def nums (ns : List Nat) : List Int := ns.map fun (k : Nat) => (k : Int)
theorem nums_app (a b : List Nat) : nums (a ++ b) = nums a ++ nums b := by simp [nums]
/-- numbers that stand for loops -/
structure Num (N : Nd) (ns : List Nat) (l : List El) : Prop where
  eq : ns.map N.FSq = l
  le : ∀ k ∈ ns, 1 ≤ k ∧ k ≤ N.fs.length
theorem Num.ext {N M : Nd} {ns : List Nat} {l : List El} (x : Num N ns l) (e : N.Ext M) : Num M ns l :=
  ⟨by rw [← x.eq]; exact List.map_congr_left fun k hk => e.ef k (x.le k hk).2, fun k hk => ⟨(x.le k hk).1, Nat.le_trans (x.le k hk).2 e.fl⟩⟩
theorem Num.len {N : Nd} {ns : List Nat} {l : List El} (x : Num N ns l) : ns.length = l.length := by rw [← x.eq, List.length_map]
theorem Num.nil (N : Nd) : Num N [] [] := ⟨rfl, fun k hk => by cases hk⟩
theorem Num.snoc {N : Nd} {ns : List Nat} {l : List El} (x : Num N ns l) {k : Nat} (h1 : 1 ≤ k) (h2 : k ≤ N.fs.length) : Num N (ns ++ [k]) (l ++ [N.FSq k]) :=
  ⟨by rw [List.map_append, x.eq]; rfl, fun j hj => by
    rcases List.mem_append.1 hj with hj | hj
    · exact x.le j hj
    · rw [List.mem_singleton.1 hj]; exact ⟨h1, h2⟩⟩
theorem NmAt.del {h h' : Hp} {nb bf bl : Nat} {N M : Nd} (x : NmAt h nb bf bl N) (y : NmAt h' nb bf bl M) {D : Option Addr} (hf : ∀ g, D = some g → h g.block = none) : NmAt (delA h' D) nb bf bl M := by
  have key : ∀ j o, h j ≠ none → h' j = some o → delA h' D j = some o := fun j o hj e => by
    cases D with
    | none => exact e
    | some g => rw [delA, Hp.del_ne _ (fun q => hj (by rw [q]; exact hf g rfl))]; exact e
  obtain ⟨es, clk, hm, s⟩ := y.f
  obtain ⟨es', clk', hm', s'⟩ := y.l
  obtain ⟨_, _, xm, _⟩ := x.f
  obtain ⟨_, _, xm', _⟩ := x.l
  exact ⟨key _ _ (by rw [x.cell]; simp) y.cell, ⟨es, clk, ⟨key _ _ (by rw [xm.at_]; simp) hm.at_, hm.keys⟩, s⟩, ⟨es', clk', ⟨key _ _ (by rw [xm'.at_]; simp) hm'.at_, hm'.keys⟩, s'⟩, y.ne, y.ok⟩
theorem off_none {h : Hp} {bf bl : Nat} {g : Nat} (e : h g = none) : h.off bf bl g = none := by
  unfold Hp.off; split
  · rfl
  · exact e
theorem off_del {h h' : Hp} {bf bl : Nat} (x : (h.off bf bl).le (h'.off bf bl)) {D : Option Addr} (hf : ∀ g, D = some g → h g.block = none) : (h.off bf bl).le ((delA h' D).off bf bl) := fun j o e => by
  have h1 := x j o e
  unfold Hp.off at h1 ⊢
  split at h1
  · cases h1
  · rename_i hq
    rw [if_neg hq]
    cases D with
    | none => exact h1
    | some g =>
      rw [delA, Hp.del_ne _ (fun q => ?_)]
      · exact h1
      · subst q
        rw [off_none (hf g rfl)] at e; cases e
theorem off_some {h : Hp} {bf bl j : Nat} (e : h.off bf bl j ≠ none) : j ≠ bf ∧ j ≠ bl ∧ h j ≠ none := by
  unfold Hp.off at e
  split at e
  · exact absurd rfl e
  · rename_i q; exact ⟨fun x => q (.inl x), fun x => q (.inr x), e⟩
theorem rowv (s1 s2 : Value) : (Value.agg [s1, s2].toArray) = .agg #[s1, s2] := rfl
theorem named34 {h : Hp} {nb bf bl : Nat} {N : Nd} {A : Option Addr} {m cap : Nat} {l : Lo} (hn : NmAt h nb bf bl N) (hs : SAt (h.off bf bl) A m l) (hc : l.cnt ≤ 200000) (hsz : N.sz + 2 * l.cnt ≤ 4000000000) :
    Fn Try.prog 34 #[lptr nb, .slice A m cap] h fun v h' => ∃ (M : Nd) (ns : List Nat) (D : Option Addr) (c : Nat), v = .agg #[.slice A m cap, .slice D m c] ∧ N.Ext M ∧ NmAt h' nb bf bl M ∧ Num M ns l.fo.els ∧ RowAt h' 3 1 D m c ((nums ns).map iv) ∧ (∀ g, D = some g → h g.block = none) ∧ (h.off bf bl).le (h'.off bf bl) ∧ M.sz ≤ N.sz + 2 * l.cnt := by
  have hm : m ≤ 200000 := by have := hs.1; have := l.len_cnt; omega
  refine Fn.intro (args := [lptr nb, .slice A m cap]) mix16 Try.func34 rfl (by decide) Try.ntmps34 rfl (low34 rfl) rfl ?_
  conv => whnf
  refine .mkS [0, 1] (Nat × Option Addr × Nat × Nd × List Nat × Lo) [0, 4, 5, 10, 11, 12] (fun (i, _, _, _, _, _) => [.v (lptr nb), .p 0 0, .p 1 0, .v (.slice A m cap), .v (iv m), .v (iv i)]) (fun (i, D, c, _, _, _) => [.own [.v (.slice none 0 0), .v (.slice none 0 0)] 60, .own [.v (.slice A m cap), .v (.slice D i c)] 60])
    (fun (i, D, c, M, ns, r) h' => NmAt h' nb bf bl M ∧ N.Ext M ∧ Tl (h.off bf bl) A m i r ∧ (∃ o, Num M ns o ∧ o ++ r.fo.els = l.fo.els) ∧ RowAt h' 3 1 D i c ((nums ns).map iv) ∧ (∀ g, D = some g → h g.block = none) ∧ (h.off bf bl).le (h'.off bf bl) ∧ M.sz + 2 * r.cnt ≤ N.sz + 2 * l.cnt ∧ r.cnt ≤ l.cnt) (fun (i, _, _, _, _, _) => m - i) (0, none, 0, N, [], l) (fun _ => rfl)
    ⟨hn, Nd.Ext.refl N, hs.tl, ⟨[], Num.nil N, rfl⟩, ⟨rfl, .inl ⟨rfl, rfl, rfl⟩⟩, (fun _ e => by cases e), Hp.le_refl _, Nat.le_refl _, Nat.le_refl _⟩ rfl rfl rfl ?_
  rintro ⟨i, D, c, M, ns, r⟩ e h' ⟨hM, hE, ht, ⟨o, hnum, he⟩, hrow, hf, hof, hz, hrl⟩
  refine .abs 3 1 D i c _ hrow (.done ?_)
  have hM := hn.del hM hf
  have hof := off_del hof hf
  conv => whnf
  refine br_dec (fun h2 => ?_) (fun h2 => ?_)
  · cases r with
    | nil => have := ht.fin; omega
    | cons t' n' B' m' c' b' r =>
      obtain ⟨g, hA, hi, hcc, hb, hr⟩ := ht.open
      simp only [Lo.cnt] at hrl hz
      simp only [Lo.fo, Fo.els] at he
      conv => whnf
      refine .mk g hA (by omega) (by omega) ?_
      conv => whnf
      refine .hp (lcells t' n' B' m' c') rfl (by rw [Int.toNat_natCast]; exact fun j v hv => Hp.cell_le (Hp.le_trans hof (Hp.off_le _ bf bl)) (hcc j v hv)) ?_
      conv => whnf
      refine .mk _ (loop47 _ b' (Nat.lt_succ_self _) (by omega) t' n' B' m' c' _ nb bf bl M hM (hb.mono hof) (by omega)) ?_
      rintro _ h3 ⟨M3, r3, rfl, E3, hM3, hF3, h31, h32, hz3, ho3⟩
      conv => whnf
      refine .old 2 _ [iv r3] rfl rfl (numsv_one [(r3 : Int)]) (by simp [maxLen]; omega) (by omega) fun D2 c2 hD2 => ?_
      conv => whnf
      refine .ok (by omega) (by omega) ?_
      conv => whnf
      refine .pub 2 3 1 D2 (i + 1) c2 _ rfl fun h4 l4 hro hf4 => .done ⟨(i + 1, D2, c2, M3, ns ++ [r3], r), rfl, rfl, ⟨hM3.mono l4, hE.trans E3, hr, ⟨o ++ [M3.FSq r3], (hnum.ext E3).snoc h31 h32, ?_⟩, ?_, fun gg eg => ?_, ?_, by omega, by omega⟩, by show m - (i + 1) < m - i; omega⟩
      · rw [hF3, ← he, List.append_assoc]; rfl
      · rw [nums_app, List.map_append]; exact hro
      · have q4 := hf4 gg eg
        by_cases e1 : gg.block = bf
        · obtain ⟨_, _, hm3, _⟩ := hM3.f
          rw [e1, hm3.at_] at q4; cases q4
        · by_cases e2 : gg.block = bl
          · obtain ⟨_, _, hm3, _⟩ := hM3.l
            rw [e2, hm3.at_] at q4; cases q4
          · have q5 : h3.off bf bl gg.block = none := off_none q4
            rw [ho3] at q5
            have := le_none hof q5
            rwa [Hp.off_of e1 e2] at this
      · refine Hp.le_trans hof ?_
        rw [← ho3]
        exact Hp.off_mono l4
  · conv => whnf
    cases r with
    | nil =>
      have := ht.fin
      subst this
      simp only [Lo.fo, Fo.els, List.append_nil] at he
      simp only [Lo.cnt] at hz
      refine .pub 2 3 1 D i c _ rfl fun h4 l4 hro hf4 => .done ⟨M, ns, D, c, rfl, hE, hM.mono l4, by rw [← he]; exact hnum, hro, hf, Hp.le_trans hof (Hp.off_mono l4), by omega⟩
    | cons => obtain ⟨g, hA, hi, _⟩ := ht.open; omega
end Go.Sx
