/- The evaluator is right: calls (6). No condition. -/
import Derived.Test.YtlphiljackccnaaRy21
set_option linter.unusedVariables false
set_option linter.unusedSimpArgs false
namespace Go.Ry

section
variable {P : Program} {S : Start} {st : St} {a : Act} {w w' : World} {Z Z' : Nat → Prop} {L L' : List Loc} {T : Tab} {C : Calls_} {G : List (Nat × Sig)} {o : Oper} {K : St → Prop} {next : Act → World → Prop} {Q : Exit → Act → World → Prop} {R : Prop}

theorem EsSim.append : ∀ {es fs : List Ent} {vs us : List Value}, EsSim w Z L es vs → EsSim w Z L fs us → EsSim w Z L (es ++ fs) (vs ++ us)
  | [], _, [], _, _, h => h
  | [], _, _ :: _, _, h, _ => h.elim
  | _ :: _, _, [], _, h, _ => h.elim
  | _ :: _, _, _ :: _, _, ⟨h1, h2⟩, h => ⟨h1, EsSim.append h2 h⟩

theorem boxes_ents : ∀ {bs : List Nat} {vs : List Value}, areBoxes L bs vs → EsSim w Z L (bs.map fun b => .one (.ptrB b 0)) vs
  | [], [], _ => trivial
  | [], _ :: _, h => h.elim
  | _ :: _, [], h => h.elim
  | b :: bs, v :: vs, ⟨⟨g, q, h1, h2⟩, h3⟩ => ⟨⟨g, q, h1, h2⟩, boxes_ents h3⟩

theorem sound_call {c : Call} {f : Operand} (ho : o.op = .call c) (hcl : c.callee = .value f) (hC : Told P C) (hs : Sit S st a w Z L) (hg : Goes S K next)
    (h : match st.ev f with
      | .one (.fn g bs) => callW C G g (c.args.toList.map st.ev ++ bs.map fun b => .one (.ptrB b 0)) st o.dst K
      | _ => False) : o.wp P a w next Q := by
  split at h
  · rename_i g bs hf
    obtain ⟨caps, hv, hb⟩ := ev_one hs hf
    refine callW_sound (vs := c.args.map a.eval ++ caps) hC hs hg h ?_ ?_
    · have : (c.args.map a.eval ++ caps).toList = c.args.toList.map a.eval ++ caps.toList := by simp
      rw [this]
      exact EsSim.append (hs.evs _) (boxes_ents hb)
    · unfold execOp
      simp [ho, resolve, hcl, hv, Deferred.ofValue, invoke]
  · exact h.elim

theorem sound_index {t : TypeId} {x y : Operand} (ho : o.op = .index t x y) (hT : tabOk P T = true) (hs : Sit S st a w Z L) (hg : FinV P o a w Z L st K R)
    {te : TE} {s : ByteArray} {k : IntKind} {i : Int} (hte : look T t = some te) (hx : st.ev x = .one (.str s)) (hy : st.ev y = .one (.int k i)) (hk : te.kind = .str)
    (h : (0 ≤ i ∧ i < s.size) ∧ K (st.putO o.dst (.one (.int .u8 ((bytesL s).getD i.toNat 0))))) : R := by
  obtain ⟨⟨h0, h1⟩, h⟩ := h
  obtain ⟨d, hd, hkd⟩ := under_of (d := .bool) hT hte
  rw [kind_str hkd hk] at hd
  have cx : a.eval x = .string s := ev_one hs hx
  have cy : a.eval y = .int k i := ev_one hs hy
  have hlt : i.toNat < s.size := by omega
  have hb : (bytesL s).getD i.toNat 0 = (s[i.toNat].toNat : Int) := by
    have : i.toNat < s.data.toList.length := by rw [Array.length_toList]; exact hlt
    simp only [bytesL, List.getD_eq_getElem?_getD, List.getElem?_map]
    rw [List.getElem?_eq_getElem this]
    simp only [Option.map_some, Option.getD_some]
    rfl
  refine hg.value (v := .int .u8 (s[i.toNat].toNat : Int)) (e := .one (.int .u8 ((bytesL s).getD i.toNat 0))) ?_ (by rw [hb]; rfl) h
  unfold execOp
  simp [ho, cx, cy, Instr.index, asIntOf, run_underlying hd, h0, hlt]
end
end Go.Ry
