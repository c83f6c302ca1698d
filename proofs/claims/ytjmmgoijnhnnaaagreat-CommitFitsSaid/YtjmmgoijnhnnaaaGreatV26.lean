/- Plain law of layer 12 (commit): what is in a page that stays committed does not change. -/
import Derived.Test.YtjmmgoijnhnnaaaGreatV25
